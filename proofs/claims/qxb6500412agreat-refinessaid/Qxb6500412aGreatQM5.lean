/-
  OWN WORK. QUERY's MODEL: a sentence in memory (from S7 by tools: SMM is SQM with the model's twelve fields).
-/
import Derived.Test.Qxb6500412aGreatQM4
namespace Go.Proofs.Qxb6500412aGreat
open Go.RowKit Go.PlainAid
set_option linter.unusedSimpArgs false
set_option linter.unusedVariables false

def smt (j : Nat) : TypeId := if j = 2 then 149 else if j = 4 then 9 else if j = 5 then 152 else 257
def smw (j : Nat) : Nat := if j = 2 then 2 else if j = 4 then 1 else if j = 5 then 3 else 5
def smj (j : Nat) : Prop := j = 2 ∨ j = 4 ∨ j = 5 ∨ j = 7
theorem smj_lt {j : Nat} (h : smj j) : j < 12 := by unfold smj at h; omega
theorem smt_ne (j : Nat) : smt j ≠ 253 ∧ smt j ≠ 325 ∧ smt j ≠ 329 := by
  unfold smt
  split
  · exact ⟨by decide, by decide, by decide⟩
  · split
    · exact ⟨by decide, by decide, by decide⟩
    · split <;> exact ⟨by decide, by decide, by decide⟩
structure SMM (lo : Nat) (w : World) (ks : Nat) (S : Sq) : Prop where
  has : Has w ks (tabV 12 S.cell) 253
  own : ∀ j, smj j → w.ownsRow 0 (smt j) (smw j) (S.cell j) (S.ln j) (S.xs j)
  sep : ∀ i j, smj i → smj j → i ≠ j → ∀ b, (S.cell i).ownBlock = some b → (S.cell j).ownBlock = some b → False
  new : ∀ b, (b = ks ∨ ∃ j, smj j ∧ (S.cell j).ownBlock = some b) → lo ≤ b
  one : ∀ i, (S.cell i).oneCell' = true
section
variable {lo : Nat} {w w' : World} {ks : Nat} {S : Sq} {i j : Nat}
theorem SMM.keep {B : Nat → Prop} (h : SMM lo w ks S) (ho : Only B w w') (hB : ∀ b, (b = ks ∨ ∃ j, smj j ∧ (S.cell j).ownBlock = some b) → ¬ B b) : SMM lo w' ks S :=
  ⟨h.has.keep ho (hB ks (.inl rfl)), fun j hj => ownsRow_keep (h.own j hj) ho (fun b hb => hB b (.inr ⟨j, hj, hb⟩)), h.sep, h.new, h.one⟩
theorem SMM.quiet (h : SMM lo w ks S) (ho : Only (fun _ => False) w w') : SMM lo w' ks S := h.keep ho (fun _ _ e => e)
theorem SMM.lt (h : SMM lo w ks S) : ks < w.heap.size := h.has.lt
theorem SMM.cl (h : SMM lo w ks S) (hi : i < 12) : w.cell? ⟨ks, i, none⟩ = some (S.cell i) := by rw [Has.cell h.has, tabV_get _ _ _ hi]
theorem SMM.fr (h : SMM lo w ks S) (i : Nat) : w.frozen? ⟨ks, i, none⟩ = false := Has.free h.has i
theorem SMM.kne (h : SMM lo w ks S) (hj : smj j) {b : Nat} (hb : (S.cell j).ownBlock = some b) : b ≠ ks := ownsRow_ne (h.own j hj) h.has (smt_ne j).1 b hb
/-- The reader's block is none of these. -/
theorem SMM.par (h : SMM lo w ks S) {kp : Nat} {c : Array Value} (hp : Has w kp c 325) : ∀ b, (b = ks ∨ ∃ j, smj j ∧ (S.cell j).ownBlock = some b) → b ≠ kp := by
  rintro b (e | ⟨j, hj, hb⟩)
  · rw [e]; exact Has.ne h.has hp (by decide)
  · exact ownsRow_ne (h.own j hj) hp (smt_ne j).2.1 b hb
theorem SMM.hasS (h : Has w ks (tabV 12 S.cell) 253) (i : Nat) (v : Value) : Has (w.setCell ⟨ks, i, none⟩ v) ks (tabV 12 (S.setC i v).cell) 253 := by
  have := Has.setCell h i v
  rw [tabV_set] at this
  exact this
theorem SMM.setC (h : SMM lo w ks S) (hi : ¬ smj i) (v : Value) (hv : v.oneCell' = true) : SMM lo (w.setCell ⟨ks, i, none⟩ v) ks (S.setC i v) := by
  have o : Only (fun b => b = ks) w (w.setCell ⟨ks, i, none⟩ v) := only1 _ _
  have e : ∀ j, smj j → (S.setC i v).cell j = S.cell j := fun j hj => if_neg (fun (c : j = i) => hi (by rw [← c]; exact hj))
  refine ⟨SMM.hasS h.has i v, fun j hj => ?_, fun a b ha hb hab c h1 h2 => ?_, fun b hb => ?_, fun k => ?_⟩
  · rw [e j hj]
    exact ownsRow_keep (h.own j hj) o (fun b hb c => h.kne hj hb c)
  · rw [e a ha] at h1
    rw [e b hb] at h2
    exact h.sep a b ha hb hab c h1 h2
  · rcases hb with c | ⟨j, hj, c⟩
    · exact h.new b (.inl c)
    · rw [e j hj] at c
      exact h.new b (.inr ⟨j, hj, c⟩)
  · show (if k = i then v else S.cell k).oneCell' = true
    split
    · exact hv
    · exact h.one k
theorem SMM.ulo (h : SMM lo w ks S) (hj : smj j) : ∀ b, S.U ks j b → lo ≤ b := by
  rintro b (e | e)
  · exact h.new b (.inl e)
  · exact h.new b (.inr ⟨j, hj, e⟩)
/-- A list grown. -/
theorem SMM.push (h : SMM lo w ks S) (hj : smj j) {wm w3 : World} {v' : Value} {es : List Value} {n : Nat} (oa : Only (fun _ => False) w wm) (hown : w3.ownsRow 0 (smt j) (smw j) v' n (S.xs j ++ es)) (hgrow : wm.grownBy w3 (S.cell j).ownBlock) (hwhere : ∀ b, v'.ownBlock = some b → (S.cell j).ownBlock = some b ∨ w.heap.size ≤ b) (hlo : lo ≤ w.heap.size) : SMM lo (w3.setCell ⟨ks, j, none⟩ v') ks (S.setL j v' (S.xs j ++ es) n) ∧ Only (S.U ks j) w (w3.setCell ⟨ks, j, none⟩ v') := by
  have og : Only (fun b => (S.cell j).ownBlock = some b) w w3 := (oa.mono (fun _ _ e => e.elim)).grown hgrow (fun b hb _ => hb)
  have o1 : Only (fun b => b = ks) w3 (w3.setCell ⟨ks, j, none⟩ v') := only1 _ _
  have oU : Only (S.U ks j) w (w3.setCell ⟨ks, j, none⟩ v') := (og.mono (T := S.U ks j) (fun b _ hb => .inr hb)).trans o1 (fun b _ e => .inl e)
  have kl := h.lt
  have hk3 : Has w3 ks (tabV 12 S.cell) 253 := h.has.keep og (fun c => h.kne hj c rfl)
  have ec : ∀ i, (S.setL j v' (S.xs j ++ es) n).cell i = if i = j then v' else S.cell i := fun _ => rfl
  have ex : ∀ i, (S.setL j v' (S.xs j ++ es) n).xs i = if i = j then S.xs j ++ es else S.xs i := fun _ => rfl
  have el : ∀ i, (S.setL j v' (S.xs j ++ es) n).ln i = if i = j then n else S.ln i := fun _ => rfl
  have hv : ∀ b, v'.ownBlock = some b → b ≠ ks := fun b hb e => by
    rcases hwhere b hb with c | c
    · exact h.kne hj c e
    · omega
  refine ⟨⟨SMM.hasS hk3 j v', fun i hi => ?_, fun a b ha hb hab c h1 h2 => ?_, fun b hb => ?_, fun k => ?_⟩, oU⟩
  · rw [ec, ex, el]
    by_cases e : i = j
    · rw [if_pos e, if_pos e, if_pos e, e]
      exact ownsRow_keep hown o1 (fun b hb e => hv b hb e)
    · rw [if_neg e, if_neg e, if_neg e]
      refine ownsRow_keep (h.own i hi) oU (fun b hb hU => ?_)
      rcases hU with c | c
      · exact h.kne hi hb c
      · exact h.sep i j hi hj e b hb c
  · rw [ec] at h1 h2
    by_cases ea : a = j
    · rw [if_pos ea] at h1
      rw [if_neg (fun e => hab (by rw [ea, e]))] at h2
      rcases hwhere c h1 with d | d
      · exact h.sep j b hj hb (fun e => hab (by rw [ea, e])) c d h2
      · have := ownsRow_lt (h.own b hb) c h2; omega
    · rw [if_neg ea] at h1
      by_cases eb : b = j
      · rw [if_pos eb] at h2
        rcases hwhere c h2 with d | d
        · exact h.sep a j ha hj ea c h1 d
        · have := ownsRow_lt (h.own a ha) c h1; omega
      · rw [if_neg eb] at h2
        exact h.sep a b ha hb hab c h1 h2
  · rcases hb with e | ⟨i, hi, e⟩
    · exact h.new b (.inl e)
    · rw [ec] at e
      by_cases c : i = j
      · rw [if_pos c] at e
        rcases hwhere b e with d | d
        · exact h.new b (.inr ⟨j, hj, d⟩)
        · omega
      · rw [if_neg c] at e
        exact h.new b (.inr ⟨i, hi, e⟩)
  · rw [ec]
    split
    · obtain ⟨a, cap, e⟩ := ownsRow_shape hown
      rw [e]; rfl
    · exact h.one k
end
/-- The tokens' block is none of these. -/
theorem SMM.tok {lo : Nat} {w : World} {ks : Nat} {S : Sq} {tv : Value} {l : List Tk} (h : SMM lo w ks S) (ht : OwnT 329 w tv l) : ∀ b, (b = ks ∨ ∃ j, smj j ∧ (S.cell j).ownBlock = some b) → tv.ownBlock ≠ some b := by
  rintro b hb e
  obtain ⟨c, hc⟩ := ownsRow_has ht e
  rcases hb with e2 | ⟨j, hj, hb⟩
  · exact Has.ne hc h.has (by decide) e2
  · exact ownsRow_ne (h.own j hj) hc (smt_ne j).2.2 b hb rfl
/-- The text of a comparison. -/
def opT (o : Int) : ByteArray := if o = 1 then ⟨#[60]⟩ else if o = 2 then ⟨#[61]⟩ else if o = 3 then ⟨#[60, 61]⟩ else if o = 4 then ⟨#[62]⟩ else if o = 5 then ⟨#[33, 61]⟩ else ⟨#[62, 61]⟩
theorem opTS {s : ByteArray} (h : opS s ≠ 0) : opT (opS s) = s := by
  unfold opS at h ⊢
  split
  · next e => rw [e]; rfl
  · split
    · next e => rw [e]; rfl
    · split
      · next e => rw [e]; rfl
      · split
        · next e => rw [e]; rfl
        · split
          · next e => rw [e]; rfl
          · split
            · next e => rw [e]; rfl
            · next h1 h2 h3 h4 h5 h6 => rw [if_neg h1, if_neg h2, if_neg h3, if_neg h4, if_neg h5, if_neg h6] at h; exact absurd rfl h
def smC (c : Cm) : List Value := [.string c.col, .string (opT c.op), .bool c.lit.str, .int .i64 c.lit.i, .string c.lit.s]
def smcs (l : List Cm) : List Value := l.flatMap smC
theorem smcs_app (l m : List Cm) : smcs (l ++ m) = smcs l ++ smcs m := by simp [smcs]
/-- The model's sentence. -/
structure Ms where
  kind : Int
  table : ByteArray
  defs : List Cl
  pk : Int
  names : List ByteArray
  vals : List Vl
  star : Bool
  wh : List Cm
  order : ByteArray
  desc : Bool
  hasL : Bool
  lim : Int
def Ms.of (st : St) : Ms := ⟨st.kind, st.table, st.defs, st.pk, st.list ++ st.sets.map (·.col), st.lits ++ st.sets.map (·.lit), st.star, st.wh, st.order, st.desc, st.hasL, st.lim⟩
/-- The block shows the sentence. -/
structure SmOf (S : Sq) (m : Ms) : Prop where
  k0 : S.cell 0 = .int .i64 m.kind
  k1 : S.cell 1 = .string m.table
  x2 : S.xs 2 = ccs m.defs ∧ S.ln 2 = m.defs.length
  k3 : S.cell 3 = .int .i64 m.pk
  x4 : S.xs 4 = m.names.map Value.string ∧ S.ln 4 = m.names.length
  x5 : S.xs 5 = vcs m.vals ∧ S.ln 5 = m.vals.length
  k6 : S.cell 6 = .bool m.star
  x7 : S.xs 7 = smcs m.wh ∧ S.ln 7 = m.wh.length
  k8 : S.cell 8 = .string m.order
  k9 : S.cell 9 = .bool m.desc
  k10 : S.cell 10 = .bool m.hasL
  k11 : S.cell 11 = .int .i64 m.lim
/-- Reader and sentence: while the text is good the block shows m. -/
structure MQR (lo : Nat) (w : World) (kr ks : Nat) (tv : Value) (l : List Tk) (P : Ps) (m : Ms) : Prop where
  rd : MRd w kr tv l P
  lr : lo ≤ kr
  sq : ∃ S, SMM lo w ks S ∧ (P.2 = true → SmOf S m) ∧ ∀ j, smj j → S.ln j ≤ 1000
section
variable {lo : Nat} {w w' : World} {kr ks : Nat} {tv : Value} {l : List Tk} {P P' : Ps} {m : Ms}
theorem MRd.own (h : MRd w kr tv l P) : OwnT 329 w tv l := by
  obtain ⟨i, bad, h1, _⟩ := h
  exact h1.own
theorem MRd.hasR (h : MRd w kr tv l P) : ∃ c, Has w kr c 325 := by
  obtain ⟨i, bad, h1, _⟩ := h
  exact ⟨_, h1.has⟩
theorem MQR.quiet (h : MQR lo w kr ks tv l P m) (ho : Only (fun _ => False) w w') : MQR lo w' kr ks tv l P m := by
  obtain ⟨S, h1, h2, h3⟩ := h.sq
  exact ⟨h.rd.quiet ho, h.lr, S, h1.quiet ho, h2, h3⟩
/-- Only the reader turned. -/
theorem MQR.par (h : MQR lo w kr ks tv l P m) (hp : MRp kr tv l P' w w') (hg : P'.2 = true → P.2 = true) : MQR lo w' kr ks tv l P' m := by
  obtain ⟨S, h1, h2, h3⟩ := h.sq
  obtain ⟨c, hc⟩ := h.rd.hasR
  exact ⟨hp.1, h.lr, S, h1.keep hp.2 (fun b hb e => h1.par hc b hb e), fun e => h2 (hg e), h3⟩
theorem MQR.klt (h : MQR lo w kr ks tv l P m) : ks < w.heap.size ∧ kr < w.heap.size ∧ lo ≤ ks := by
  obtain ⟨S, h1, h2, h3⟩ := h.sq
  exact ⟨h1.lt, h.rd.lt, h1.new ks (.inl rfl)⟩
theorem MQR.kne (h : MQR lo w kr ks tv l P m) : kr ≠ ks := by
  obtain ⟨S, h1, h2, h3⟩ := h.sq
  obtain ⟨c, hc⟩ := h.rd.hasR
  exact Has.ne hc h1.has (by decide)
/-- The sentence turned: the reader stands. -/
theorem MQR.sen {m' : Ms} {S S' : Sq} (h : MQR lo w kr ks tv l P m) (h0 : SMM lo w ks S) (h1 : SMM lo w' ks S') (h2 : P.2 = true → SmOf S' m') (h3 : ∀ j, smj j → S'.ln j ≤ 1000) (ho : Only (fun b => b = ks ∨ ∃ j, smj j ∧ (S.cell j).ownBlock = some b) w w') : MQR lo w' kr ks tv l P m' := by
  obtain ⟨c, hc⟩ := h.rd.hasR
  exact ⟨h.rd.keep ho (fun hb => h0.par hc kr hb rfl) (fun b hb e => h0.tok h.rd.own b e hb), h.lr, S', h1, h2, h3⟩
end
end Go.Proofs.Qxb6500412aGreat
