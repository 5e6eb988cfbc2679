/-
  OWN WORK. QUERY: a sentence in memory.
-/
import Derived.Test.Qxb6500412aGreatS6
import Derived.Test.Qxb6500412aGreatOTab
namespace Go.Proofs.Qxb6500412aGreat
open Go.RowKit Go.PlainAid
set_option linter.unusedSimpArgs false
set_option linter.unusedVariables false

/-- A comparison, a setting. -/
structure Cm where
  col : ByteArray
  op : Int
  lit : Vl
/-- A sentence. -/
structure St where
  kind : Int
  table : ByteArray
  defs : List Cl
  pk : Int
  lits : List Vl
  star : Bool
  list : List ByteArray
  sets : List Cm
  wh : List Cm
  order : ByteArray
  desc : Bool
  hasL : Bool
  lim : Int
def St.z : St := ⟨0, ⟨#[]⟩, [], 0, [], false, [], [], [], ⟨#[]⟩, false, false, 0⟩
def cmC (c : Cm) : List Value := [.string c.col, .int .i64 c.op, .bool c.lit.str, .int .i64 c.lit.i, .string c.lit.s]
def cmcs (l : List Cm) : List Value := l.flatMap cmC
theorem cmcs_app (l m : List Cm) : cmcs (l ++ m) = cmcs l ++ cmcs m := by simp [cmcs]
/-- The sentence's block with its five lists. -/
structure Sq where
  cell : Nat → Value
  xs : Nat → List Value
  ln : Nat → Nat
def sqt (j : Nat) : TypeId := if j = 2 then 149 else if j = 4 then 152 else if j = 6 then 9 else 300
def sqw (j : Nat) : Nat := if j = 2 then 2 else if j = 4 then 3 else if j = 6 then 1 else 5
def sqj (j : Nat) : Prop := j = 2 ∨ j = 4 ∨ j = 6 ∨ j = 7 ∨ j = 8
theorem sqj_lt {j : Nat} (h : sqj j) : j < 13 := by unfold sqj at h; omega
theorem sqt_ne (j : Nat) : sqt j ≠ 173 ∧ sqt j ≠ 229 := by
  unfold sqt
  split
  · exact ⟨by decide, by decide⟩
  · split
    · exact ⟨by decide, by decide⟩
    · split <;> exact ⟨by decide, by decide⟩
structure SQM (lo : Nat) (w : World) (ks : Nat) (S : Sq) : Prop where
  has : Has w ks (tabV 13 S.cell) 173
  own : ∀ j, sqj j → w.ownsRow 0 (sqt j) (sqw j) (S.cell j) (S.ln j) (S.xs j)
  sep : ∀ i j, sqj i → sqj j → i ≠ j → ∀ b, (S.cell i).ownBlock = some b → (S.cell j).ownBlock = some b → False
  new : ∀ b, (b = ks ∨ ∃ j, sqj j ∧ (S.cell j).ownBlock = some b) → lo ≤ b
def Sq.setC (S : Sq) (i : Nat) (v : Value) : Sq := { S with cell := fun j => if j = i then v else S.cell j }
def Sq.setL (S : Sq) (i : Nat) (v : Value) (l : List Value) (n : Nat) : Sq := { cell := fun j => if j = i then v else S.cell j, xs := fun j => if j = i then l else S.xs j, ln := fun j => if j = i then n else S.ln j }
section
variable {lo : Nat} {w w' : World} {ks : Nat} {S : Sq} {i j : Nat}
theorem SQM.keep {B : Nat → Prop} (h : SQM lo w ks S) (ho : Only B w w') (hB : ∀ b, (b = ks ∨ ∃ j, sqj j ∧ (S.cell j).ownBlock = some b) → ¬ B b) : SQM lo w' ks S :=
  ⟨h.has.keep ho (hB ks (.inl rfl)), fun j hj => ownsRow_keep (h.own j hj) ho (fun b hb => hB b (.inr ⟨j, hj, hb⟩)), h.sep, h.new⟩
theorem SQM.quiet (h : SQM lo w ks S) (ho : Only (fun _ => False) w w') : SQM lo w' ks S := h.keep ho (fun _ _ e => e)
theorem SQM.lt (h : SQM lo w ks S) : ks < w.heap.size := h.has.lt
theorem SQM.cl (h : SQM lo w ks S) (hi : i < 13) : w.cell? ⟨ks, i, none⟩ = some (S.cell i) := by rw [Has.cell h.has, tabV_get _ _ _ hi]
theorem SQM.fr (h : SQM lo w ks S) (i : Nat) : w.frozen? ⟨ks, i, none⟩ = false := Has.free h.has i
theorem SQM.kne (h : SQM lo w ks S) (hj : sqj j) {b : Nat} (hb : (S.cell j).ownBlock = some b) : b ≠ ks := ownsRow_ne (h.own j hj) h.has (sqt_ne j).1 b hb
/-- The parser's block is none of these. -/
theorem SQM.par (h : SQM lo w ks S) {kp : Nat} {c : Array Value} (hp : Has w kp c 229) : ∀ b, (b = ks ∨ ∃ j, sqj j ∧ (S.cell j).ownBlock = some b) → b ≠ kp := by
  rintro b (e | ⟨j, hj, hb⟩)
  · rw [e]; exact Has.ne h.has hp (by decide)
  · exact ownsRow_ne (h.own j hj) hp (sqt_ne j).2 b hb
theorem SQM.hasS (h : Has w ks (tabV 13 S.cell) 173) (i : Nat) (v : Value) : Has (w.setCell ⟨ks, i, none⟩ v) ks (tabV 13 (S.setC i v).cell) 173 := by
  have := Has.setCell h i v
  rw [tabV_set] at this
  exact this
theorem SQM.setC (h : SQM lo w ks S) (hi : ¬ sqj i) (v : Value) : SQM lo (w.setCell ⟨ks, i, none⟩ v) ks (S.setC i v) := by
  have o : Only (fun b => b = ks) w (w.setCell ⟨ks, i, none⟩ v) := only1 _ _
  have e : ∀ j, sqj j → (S.setC i v).cell j = S.cell j := fun j hj => if_neg (fun (c : j = i) => hi (by rw [← c]; exact hj))
  refine ⟨SQM.hasS h.has i v, fun j hj => ?_, fun a b ha hb hab c h1 h2 => ?_, fun b hb => ?_⟩
  · rw [e j hj]
    exact ownsRow_keep (h.own j hj) o (fun b hb c => h.kne hj hb c)
  · rw [e a ha] at h1
    rw [e b hb] at h2
    exact h.sep a b ha hb hab c h1 h2
  · rcases hb with c | ⟨j, hj, c⟩
    · exact h.new b (.inl c)
    · rw [e j hj] at c
      exact h.new b (.inr ⟨j, hj, c⟩)
def Sq.U (S : Sq) (ks j b : Nat) : Prop := b = ks ∨ (S.cell j).ownBlock = some b
theorem SQM.ulo (h : SQM lo w ks S) (hj : sqj j) : ∀ b, S.U ks j b → lo ≤ b := by
  rintro b (e | e)
  · exact h.new b (.inl e)
  · exact h.new b (.inr ⟨j, hj, e⟩)
/-- A list grown. -/
theorem SQM.push (h : SQM lo w ks S) (hj : sqj j) {wm w3 : World} {v' : Value} {es : List Value} {n : Nat} (oa : Only (fun _ => False) w wm) (hown : w3.ownsRow 0 (sqt j) (sqw j) v' n (S.xs j ++ es)) (hgrow : wm.grownBy w3 (S.cell j).ownBlock) (hwhere : ∀ b, v'.ownBlock = some b → (S.cell j).ownBlock = some b ∨ w.heap.size ≤ b) (hlo : lo ≤ w.heap.size) : SQM lo (w3.setCell ⟨ks, j, none⟩ v') ks (S.setL j v' (S.xs j ++ es) n) ∧ Only (S.U ks j) w (w3.setCell ⟨ks, j, none⟩ v') := by
  have og : Only (fun b => (S.cell j).ownBlock = some b) w w3 := (oa.mono (fun _ _ e => e.elim)).grown hgrow (fun b hb _ => hb)
  have o1 : Only (fun b => b = ks) w3 (w3.setCell ⟨ks, j, none⟩ v') := only1 _ _
  have oU : Only (S.U ks j) w (w3.setCell ⟨ks, j, none⟩ v') := (og.mono (T := S.U ks j) (fun b _ hb => .inr hb)).trans o1 (fun b _ e => .inl e)
  have kl := h.lt
  have hk3 : Has w3 ks (tabV 13 S.cell) 173 := h.has.keep og (fun c => h.kne hj c rfl)
  have ec : ∀ i, (S.setL j v' (S.xs j ++ es) n).cell i = if i = j then v' else S.cell i := fun _ => rfl
  have ex : ∀ i, (S.setL j v' (S.xs j ++ es) n).xs i = if i = j then S.xs j ++ es else S.xs i := fun _ => rfl
  have el : ∀ i, (S.setL j v' (S.xs j ++ es) n).ln i = if i = j then n else S.ln i := fun _ => rfl
  have hv : ∀ b, v'.ownBlock = some b → b ≠ ks := fun b hb e => by
    rcases hwhere b hb with c | c
    · exact h.kne hj c e
    · omega
  refine ⟨⟨SQM.hasS hk3 j v', fun i hi => ?_, fun a b ha hb hab c h1 h2 => ?_, fun b hb => ?_⟩, oU⟩
  · rw [ec, ex, el]
    by_cases e : i = j
    · rw [if_pos e, if_pos e, if_pos e, e]
      exact ownsRow_keep hown o1 (fun b hb e => hv b hb e)
    · rw [if_neg e, if_neg e, if_neg e]
      refine ownsRow_keep (h.own i hi) oU (fun b hb hU => ?_)
      rcases hU with c | c
      · exact h.kne hi hb c
      · exact h.sep i j hi hj e b hb c
  · rw [ec] at h1 h2
    by_cases ea : a = j
    · rw [if_pos ea] at h1
      rw [if_neg (fun e => hab (by rw [ea, e]))] at h2
      rcases hwhere c h1 with d | d
      · exact h.sep j b hj hb (fun e => hab (by rw [ea, e])) c d h2
      · have := ownsRow_lt (h.own b hb) c h2; omega
    · rw [if_neg ea] at h1
      by_cases eb : b = j
      · rw [if_pos eb] at h2
        rcases hwhere c h2 with d | d
        · exact h.sep a j ha hj ea c h1 d
        · have := ownsRow_lt (h.own a ha) c h1; omega
      · rw [if_neg eb] at h2
        exact h.sep a b ha hb hab c h1 h2
  · rcases hb with e | ⟨i, hi, e⟩
    · exact h.new b (.inl e)
    · rw [ec] at e
      by_cases c : i = j
      · rw [if_pos c] at e
        rcases hwhere b e with d | d
        · exact h.new b (.inr ⟨j, hj, d⟩)
        · omega
      · rw [if_neg c] at e
        exact h.new b (.inr ⟨i, hi, e⟩)
end
/-- The block shows the sentence. -/
structure SqOf (S : Sq) (st : St) : Prop where
  k0 : S.cell 0 = .int .i64 st.kind
  k1 : S.cell 1 = .string st.table
  x2 : S.xs 2 = ccs st.defs ∧ S.ln 2 = st.defs.length
  k3 : S.cell 3 = .int .i64 st.pk
  x4 : S.xs 4 = vcs st.lits ∧ S.ln 4 = st.lits.length
  k5 : S.cell 5 = .bool st.star
  x6 : S.xs 6 = st.list.map Value.string ∧ S.ln 6 = st.list.length
  x7 : S.xs 7 = cmcs st.sets ∧ S.ln 7 = st.sets.length
  x8 : S.xs 8 = cmcs st.wh ∧ S.ln 8 = st.wh.length
  k9 : S.cell 9 = .string st.order
  k10 : S.cell 10 = .bool st.desc
  k11 : S.cell 11 = .bool st.hasL
  k12 : S.cell 12 = .int .i64 st.lim
/-- Parser and sentence. -/
structure QP (lo : Nat) (w : World) (kp ks : Nat) (t : ByteArray) (P : Ps) (st : St) : Prop where
  ps : PS w kp t P
  lp : lo ≤ kp
  sq : ∃ S, SQM lo w ks S ∧ SqOf S st
section
variable {lo : Nat} {w w' : World} {kp ks : Nat} {t : ByteArray} {P P' : Ps} {st : St}
theorem QP.quiet (h : QP lo w kp ks t P st) (ho : Only (fun _ => False) w w') : QP lo w' kp ks t P st := by
  obtain ⟨S, h1, h2⟩ := h.sq
  exact ⟨h.ps.keep ho (fun e => e), h.lp, S, h1.quiet ho, h2⟩
/-- Only the parser turned. -/
theorem QP.par (h : QP lo w kp ks t P st) (hp : PaP kp t P' w w') : QP lo w' kp ks t P' st := by
  obtain ⟨S, h1, h2⟩ := h.sq
  obtain ⟨k, s, v, e, h3, _⟩ := h.ps
  exact ⟨hp.1, h.lp, S, h1.keep hp.2 (fun b hb c => h1.par h3 b hb c), h2⟩
theorem QP.klt (h : QP lo w kp ks t P st) : ks < w.heap.size ∧ kp < w.heap.size ∧ lo ≤ ks := by
  obtain ⟨S, h1, h2⟩ := h.sq
  exact ⟨h1.lt, h.ps.lt, h1.new ks (.inl rfl)⟩
theorem QP.lo_ (h : QP lo w kp ks t P st) : lo ≤ w.heap.size := by
  have := h.klt
  omega
/-- The sentence turned: the parser stands. -/
theorem QP.sen {st' : St} (h : QP lo w kp ks t P st) {S' : Sq} (h1 : SQM lo w' ks S') (h2 : SqOf S' st') {B : Nat → Prop} (ho : Only B w w') (hB : ¬ B kp) : QP lo w' kp ks t P st' := ⟨h.ps.keep ho hB, h.lp, S', h1, h2⟩
theorem QP.kne (h : QP lo w kp ks t P st) : kp ≠ ks := by
  obtain ⟨S, h1, h2⟩ := h.sq
  obtain ⟨k, s, v, e, h3, _⟩ := h.ps
  exact Has.ne h3 h1.has (by decide)
end
end Go.Proofs.Qxb6500412aGreat
