/-
  OWN WORK. THE B-TREE: what a forest shows, as plain lists; the forest's contracts in these words.
-/
import Derived.Test.Qxb6500412aGreatBTxn
import Derived.Test.Qxb6500412aGreatBVp
namespace Go.Proofs.Qxb6500412aGreat
open Go.RowKit Go.PlainAid
set_option linter.unusedSimpArgs false
set_option linter.unusedVariables false

def lR (o : Option Root) : Option (List KV) := o.map (fun r => entsL r.h (itT r.t))
def vu (F : Fo) : Vu := fun i => if i < 8 then lR (F i) else none
theorem Vz_vu (F : Fo) (h : Int) : Vz (vu F) h = lR (Fz F h) := by
  unfold Vz Fz
  by_cases c : 0 ≤ h ∧ h < 8
  · rw [if_pos c, if_pos c]
    unfold vu
    rw [if_pos (by omega)]
  · rw [if_neg c, if_neg c]; rfl
theorem lR_getD (o : Option Root) : (lR o).getD [] = entsR o := by cases o <;> rfl
theorem al8_vu (F : Fo) : al8 (vu F) = all8 entsR F := by
  unfold al8 all8
  apply fm_congr
  intro i hi
  unfold vu
  rw [if_pos (List.mem_range.mp hi), lR_getD]
theorem vu_upd (F : Fo) {i : Nat} (hi : i < 8) (ro : Option Root) : vu (upd F i ro) = updV (vu F) i (lR ro) := by
  funext j
  unfold vu updV
  by_cases e : j = i
  · subst e
    rw [if_pos hi, if_pos rfl, upd_same]
  · rw [if_neg e, upd_other _ _ e]
theorem FI.vok {N : Nat → Option ByteArray} {F : Fo} (I : FI N F) : Vok (vu F) := by
  refine ⟨fun i l hl => ?_, fun i hi => ?_, by rw [al8_vu]; exact I.ct⟩
  · unfold vu at hl
    by_cases c : i < 8
    · rw [if_pos c] at hl
      cases hf : F i with
      | none => rw [hf] at hl; cases hl
      | some r =>
        rw [hf] at hl
        cases hl
        have g := I.gd i r c hf
        exact Ch_srt (fun e he => (g.sz.2.2 e he).2) g.bd.2
    · rw [if_neg c] at hl; cases hl
  · unfold vu
    rw [if_neg (by omega)]
/-- The forest shows S. -/
def FV (q : Gnd) (w : World) (op : Bool) (S : Vu) : Prop := ∃ view F, FA q w op view ∧ FI (NV view) F ∧ vu F = S
/-- The committed pages show S. -/
def ComS (com : List ByteArray) (S : Vu) : Prop := (NV (com.take 72) = (fun _ => none) ∧ S = fun _ => none) ∨ ∃ F, FI (NV (com.take 72)) F ∧ vu F = S
def getS (S : Vu) (h : Int) (k : ByteArray) : Value := match Vz S h with
  | none => .tuple #[.string bE, .int .i64 7]
  | some l => getV (getL k l)
def seekS (S : Vu) (h : Int) (k : ByteArray) (past : Bool) : Value := match Vz S h with
  | none => .tuple #[kvA kvD, .int .i64 7]
  | some l => seV (seekL k past l)
section
variable {q : Gnd} {w w' : World} {op : Bool} {S : Vu}
theorem FV.ok (A : FV q w op S) : Vok S := by
  obtain ⟨view, F, A, I, rfl⟩ := A
  exact I.vok
theorem FV.quiet (A : FV q w op S) (ho : Only (fun _ => False) w w') : FV q w' op S := by
  obtain ⟨view, F, A, I, rfl⟩ := A
  exact ⟨view, F, A.quiet ho, I, rfl⟩
theorem FV.keep {B : Nat → Prop} (A : FV q w op S) (ho : Only B w w') (hF : ∀ k, q.F k → ¬ B k) (hG : ∀ k, q.G k → ¬ B k) (hp : ¬ B q.p) (hf : ¬ B q.f) : FV q w' op S := by
  obtain ⟨view, F, A, I, rfl⟩ := A
  exact ⟨view, F, A.keep ho hF hG hp hf, I, rfl⟩
theorem vused_any (A : FV q w op S) (h : Int) : Calls Tryz.prog 91 #[.pointer (some ⟨q.f, 0, none⟩), .int .i64 h] w fun e w' => e = .returned (.bool (Vz S h).isSome) ∧ FV q w' op S ∧ Only q.S w w' := by
  obtain ⟨view, F, A, I, rfl⟩ := A
  refine (bused_any A I h).mono ?_
  rintro e w' ⟨rfl, A1, o1⟩
  refine ⟨?_, ⟨view, F, A1, I, rfl⟩, o1⟩
  rw [Vz_vu]
  cases Fz F h <;> rfl
theorem vget_any (A : FV q w op S) (h : Int) (k : ByteArray) : Calls Tryz.prog 283 #[.pointer (some ⟨q.f, 0, none⟩), .int .i64 h, .string k] w fun e w' => e = .returned (getS S h k) ∧ FV q w' op S ∧ Only q.S w w' := by
  obtain ⟨view, F, A, I, rfl⟩ := A
  refine (bget_any A I h k).mono ?_
  rintro e w' ⟨rfl, A1, o1⟩
  refine ⟨?_, ⟨view, F, A1, I, rfl⟩, o1⟩
  unfold getF getS
  rw [Vz_vu]
  cases Fz F h <;> rfl
theorem vseek_any (A : FV q w op S) (h : Int) (k : ByteArray) : Calls Tryz.prog 317 #[.pointer (some ⟨q.f, 0, none⟩), .int .i64 h, .string k] w fun e w' => e = .returned (seekS S h k false) ∧ FV q w' op S ∧ Only q.S w w' := by
  obtain ⟨view, F, A, I, rfl⟩ := A
  refine (bseek_any A I h k).mono ?_
  rintro e w' ⟨rfl, A1, o1⟩
  refine ⟨?_, ⟨view, F, A1, I, rfl⟩, o1⟩
  unfold seekF seekS
  rw [Vz_vu]
  cases Fz F h <;> rfl
theorem vnext_any (A : FV q w op S) (h : Int) (k : ByteArray) : Calls Tryz.prog 319 #[.pointer (some ⟨q.f, 0, none⟩), .int .i64 h, .string k] w fun e w' => e = .returned (seekS S h k true) ∧ FV q w' op S ∧ Only q.S w w' := by
  obtain ⟨view, F, A, I, rfl⟩ := A
  refine (bnext_any A I h k).mono ?_
  rintro e w' ⟨rfl, A1, o1⟩
  refine ⟨?_, ⟨view, F, A1, I, rfl⟩, o1⟩
  unfold seekF seekS
  rw [Vz_vu]
  cases Fz F h <;> rfl
theorem vintxn_any (A : FV q w op S) : Calls Tryz.prog 232 #[.pointer (some ⟨q.f, 0, none⟩)] w fun e w' => e = .returned (.bool op) ∧ w = w' := by
  obtain ⟨view, F, A, I, rfl⟩ := A
  exact bintxn_any A
theorem vbegin_open (A : FV q w true S) : Calls Tryz.prog 92 #[.pointer (some ⟨q.f, 0, none⟩)] w fun e w' => e = .returned (.int .i64 3) ∧ w = w' := by
  obtain ⟨view, F, A, I, rfl⟩ := A
  exact bbegin_open A
theorem vbegin_shut (A : FV q w false S) : Calls Tryz.prog 92 #[.pointer (some ⟨q.f, 0, none⟩)] w fun e w' => e = .returned (.int .i64 0) ∧ FV q w' true S ∧ Only q.S w w' := by
  obtain ⟨view, F, A, I, rfl⟩ := A
  exact (bbegin_shut A).mono fun e w' ⟨h1, h2, h3⟩ => ⟨h1, ⟨view, F, h2, I, rfl⟩, h3⟩
theorem vabort_shut (A : FV q w false S) : Calls Tryz.prog 300 #[.pointer (some ⟨q.f, 0, none⟩)] w fun e w' => e = .returned (.int .i64 2) ∧ w = w' := by
  obtain ⟨view, F, A, I, rfl⟩ := A
  exact babort_shut A
/-- The committed pages are formatted. -/
def ComF (com : List ByteArray) (S : Vu) : Prop := ∃ F, FI (NV (com.take 72)) F ∧ vu F = S
theorem vabort_open (A : FV q w true S) {C : Vu} (hC : ComF q.com C) : Calls Tryz.prog 300 #[.pointer (some ⟨q.f, 0, none⟩)] w fun e w' => e = .returned (.int .i64 0) ∧ FV q w' false C ∧ Only q.S w w' := by
  obtain ⟨view, F, A, I, rfl⟩ := A
  obtain ⟨F', I', rfl⟩ := hC
  exact (babort_open A).mono fun e w' ⟨h1, h2, h3⟩ => ⟨h1, ⟨_, F', h2, I', rfl⟩, h3⟩
theorem vcommit_shut (A : FV q w false S) : Calls Tryz.prog 94 #[.pointer (some ⟨q.f, 0, none⟩)] w fun e w' => e = .returned (.int .i64 2) ∧ w = w' := by
  obtain ⟨view, F, A, I, rfl⟩ := A
  exact bcommit_shut A
theorem vcommit_open (A : FV q w true S) (hrc : q.recs.length ≤ 300) : Calls Tryz.prog 94 #[.pointer (some ⟨q.f, 0, none⟩)] w fun e w' => e = .returned (.int .i64 0) ∧ ∃ rs com, FV (q.done rs com w w') w' false S ∧ ComF com S ∧ CutInv q.blk rs q.com com ∧ Only q.D w w' := by
  obtain ⟨view, F, A, I, rfl⟩ := A
  refine (bcommit_open A hrc).mono ?_
  rintro e w' ⟨h1, rs, com, h2, h3, h4⟩
  have hs : view = com.take 72 := h2.pg.shut
  refine ⟨h1, rs, com, ⟨view, F, h2, I, rfl⟩, ⟨F, ?_, rfl⟩, h3, h4⟩
  rw [← hs]
  exact I
theorem Turned.fv {F : Fo} {i : Nat} (hi : i < 8) {P : Option Root → Prop} {o : Option (List KV)} (hP : ∀ ro, P ro → lR ro = o) (T : Turned q F i P w w') : FV q w' true (updV (vu F) i o) ∧ Only q.S w w' := by
  obtain ⟨view', ro, hp, A1, I1, o1⟩ := T
  exact ⟨⟨view', _, A1, I1, by rw [vu_upd F hi, hP ro hp]⟩, o1⟩
theorem vinsert_shut (A : FV q w false S) (h : Int) (k v : ByteArray) : Calls Tryz.prog 237 #[.pointer (some ⟨q.f, 0, none⟩), .int .i64 h, .string k, .string v] w fun e w' => e = .returned (.int .i64 2) ∧ FV q w' false S ∧ Only q.S w w' := by
  obtain ⟨view, F, A, I, rfl⟩ := A
  exact (binsert_shut A h k v).mono fun e w' ⟨h1, h2, h3⟩ => ⟨h1, ⟨_, F, h2, I, rfl⟩, h3⟩
theorem vdelete_shut (A : FV q w false S) (h : Int) (k : ByteArray) : Calls Tryz.prog 242 #[.pointer (some ⟨q.f, 0, none⟩), .int .i64 h, .string k] w fun e w' => e = .returned (.int .i64 2) ∧ FV q w' false S ∧ Only q.S w w' := by
  obtain ⟨view, F, A, I, rfl⟩ := A
  exact (bdelete_shut A h k).mono fun e w' ⟨h1, h2, h3⟩ => ⟨h1, ⟨_, F, h2, I, rfl⟩, h3⟩
theorem vdrop_shut (A : FV q w false S) (h : Int) : Calls Tryz.prog 241 #[.pointer (some ⟨q.f, 0, none⟩), .int .i64 h] w fun e w' => e = .returned (.int .i64 2) ∧ FV q w' false S ∧ Only q.S w w' := by
  obtain ⟨view, F, A, I, rfl⟩ := A
  exact (bdrop_shut A h).mono fun e w' ⟨h1, h2, h3⟩ => ⟨h1, ⟨_, F, h2, I, rfl⟩, h3⟩
theorem vcreate_shut (A : FV q w false S) : Calls Tryz.prog 93 #[.pointer (some ⟨q.f, 0, none⟩)] w fun e w' => e = .returned (.tuple #[.int .i64 (-1), .int .i64 2]) ∧ FV q w' false S ∧ Only q.S w w' := by
  obtain ⟨view, F, A, I, rfl⟩ := A
  exact (bcreate_shut A).mono fun e w' ⟨h1, h2, h3⟩ => ⟨h1, ⟨_, F, h2, I, rfl⟩, h3⟩
theorem vinsert_open (A : FV q w true S) (h : Int) (k v : ByteArray) : Calls Tryz.prog 237 #[.pointer (some ⟨q.f, 0, none⟩), .int .i64 h, .string k, .string v] w fun e w' => e = .returned (.int .i64 (putS S h k v).2) ∧ FV q w' true (putS S h k v).1 ∧ Only q.S w w' := by
  obtain ⟨view, F, A, I, rfl⟩ := A
  cases hf : Fz F h with
  | none =>
    have hp : putS (vu F) h k v = (vu F, 7) := by unfold putS; rw [Vz_vu, hf]; rfl
    rw [hp]
    exact (binsert_bad A I h k v hf).mono fun e w' ⟨h1, h2, h3⟩ => ⟨h1, ⟨_, F, h2, I, rfl⟩, h3⟩
  | some r =>
    obtain ⟨h0, h8, hi, hr⟩ := Fz_some hf
    have hv : Vz (vu F) h = some (entsL r.h (itT r.t)) := by rw [Vz_vu, hf]; rfl
    by_cases hs : 16 < k.size ∨ 16 < v.size
    · have hp : putS (vu F) h k v = (vu F, 8) := by unfold putS; rw [hv]; simp only; rw [if_pos hs]
      rw [hp]
      exact (binsert_key A I hf k v hs).mono fun e w' ⟨h1, h2, h3⟩ => ⟨h1, ⟨_, F, h2, I, rfl⟩, h3⟩
    · cases hg : getL k (entsL r.h (itT r.t)) with
      | none =>
        by_cases hc : 64 ≤ (al8 (vu F)).length
        · have hp : putS (vu F) h k v = (vu F, 6) := by unfold putS; rw [hv]; simp only; rw [if_neg hs, if_pos ⟨hg, hc⟩]
          rw [hp]
          exact (binsert_full A I hf k v (by omega) (by omega) hg (by rw [← al8_vu]; exact hc)).mono fun e w' ⟨h1, h2, h3⟩ => ⟨h1, ⟨_, F, h2, I, rfl⟩, h3⟩
        · have hp : putS (vu F) h k v = (updV (vu F) h.toNat (some (putL k v (entsL r.h (itT r.t)))), 0) := by unfold putS; rw [hv]; simp only; rw [if_neg hs, if_neg (fun c => hc c.2)]
          rw [hp]
          refine (binsert_new A I hf k v (by omega) (by omega) hg (by rw [← al8_vu]; omega)).mono fun e w' ⟨h1, h2⟩ => ⟨h1, Turned.fv hi (fun ro hro => ?_) h2⟩
          obtain ⟨r', rfl, he⟩ := hro
          rw [hr] at he
          exact congrArg some he
      | some v0 =>
        have hp : putS (vu F) h k v = (updV (vu F) h.toNat (some (putL k v (entsL r.h (itT r.t)))), 0) := by unfold putS; rw [hv]; simp only; rw [if_neg hs, if_neg (fun c => by rw [hg] at c; cases c.1)]
        rw [hp]
        refine (binsert_old A I hf k v v0 (by omega) (by omega) hg).mono fun e w' ⟨h1, h2⟩ => ⟨h1, Turned.fv hi (fun ro hro => ?_) h2⟩
        obtain ⟨r', rfl, he⟩ := hro
        rw [hr] at he
        exact congrArg some he
theorem vdelete_open (A : FV q w true S) (h : Int) (k : ByteArray) : Calls Tryz.prog 242 #[.pointer (some ⟨q.f, 0, none⟩), .int .i64 h, .string k] w fun e w' => e = .returned (.int .i64 (delS S h k).2) ∧ FV q w' true (delS S h k).1 ∧ Only q.S w w' := by
  obtain ⟨view, F, A, I, rfl⟩ := A
  cases hf : Fz F h with
  | none =>
    have hp : delS (vu F) h k = (vu F, 7) := by unfold delS; rw [Vz_vu, hf]; rfl
    rw [hp]
    exact (bdelete_bad A I h k hf).mono fun e w' ⟨h1, h2, h3⟩ => ⟨h1, ⟨_, F, h2, I, rfl⟩, h3⟩
  | some r =>
    obtain ⟨h0, h8, hi, hr⟩ := Fz_some hf
    have hv : Vz (vu F) h = some (entsL r.h (itT r.t)) := by rw [Vz_vu, hf]; rfl
    cases hg : getL k (entsL r.h (itT r.t)) with
    | none =>
      have hp : delS (vu F) h k = (vu F, 9) := by unfold delS; rw [hv]; simp only; rw [if_pos hg]
      rw [hp]
      exact (bdelete_none A I hf k hg).mono fun e w' ⟨h1, h2, h3⟩ => ⟨h1, ⟨_, F, h2, I, rfl⟩, h3⟩
    | some v0 =>
      have hp : delS (vu F) h k = (updV (vu F) h.toNat (some (delL k (entsL r.h (itT r.t)))), 0) := by unfold delS; rw [hv]; simp only; rw [if_neg (by rw [hg]; simp)]
      rw [hp]
      refine (bdelete_ok A I hf k v0 hg).mono fun e w' ⟨h1, h2⟩ => ⟨h1, Turned.fv hi (fun ro hro => ?_) h2⟩
      obtain ⟨r', rfl, he⟩ := hro
      rw [hr] at he
      exact congrArg some he
theorem vdrop_open (A : FV q w true S) (h : Int) : Calls Tryz.prog 241 #[.pointer (some ⟨q.f, 0, none⟩), .int .i64 h] w fun e w' => e = .returned (.int .i64 (dropS S h).2) ∧ FV q w' true (dropS S h).1 ∧ Only q.S w w' := by
  obtain ⟨view, F, A, I, rfl⟩ := A
  cases hf : Fz F h with
  | none =>
    have hp : dropS (vu F) h = (vu F, 7) := by unfold dropS; rw [Vz_vu, hf]; rfl
    rw [hp]
    exact (bdrop_bad A I h hf).mono fun e w' ⟨h1, h2, h3⟩ => ⟨h1, ⟨_, F, h2, I, rfl⟩, h3⟩
  | some r =>
    obtain ⟨h0, h8, hi, hr⟩ := Fz_some hf
    have hv : Vz (vu F) h = some (entsL r.h (itT r.t)) := by rw [Vz_vu, hf]; rfl
    have hp : dropS (vu F) h = (updV (vu F) h.toNat none, 0) := by unfold dropS; rw [hv]
    rw [hp]
    exact (bdrop_ok A I hf).mono fun e w' ⟨h1, h2⟩ => ⟨h1, Turned.fv hi (fun ro hro => by rw [hro]; rfl) h2⟩
theorem vcreate_open (A : FV q w true S) : Calls Tryz.prog 93 #[.pointer (some ⟨q.f, 0, none⟩)] w fun e w' => e = .returned (.tuple #[.int .i64 (newS S).2.1, .int .i64 (newS S).2.2]) ∧ FV q w' true (newS S).1 ∧ Only q.S w w' := by
  obtain ⟨view, F, A, I, rfl⟩ := A
  have hn : ∀ j, j < 8 → F j ≠ none → vu F j ≠ none := fun j hj h => by
    unfold vu
    rw [if_pos hj]
    cases hf : F j with
    | none => exact absurd hf h
    | some r => simp [lR]
  refine (bcreate_any A I).mono ?_
  rintro e w' (⟨h1, h2, h3, h4⟩ | ⟨i, h1, ⟨hi, h0, hl⟩, h3⟩)
  · have hp : newS (vu F) = (vu F, -1, 6) := by unfold newS; rw [lowS_none (fun j hj => hn j hj (h2 j hj))]
    rw [hp]
    exact ⟨h1, ⟨_, F, h3, I, rfl⟩, h4⟩
  · have hp : newS (vu F) = (updV (vu F) i (some []), (i : Int), 0) := by
      unfold newS
      rw [lowS_some hi (by unfold vu; rw [if_pos hi, h0]; rfl) (fun j hj => hn j (by omega) (hl j hj))]
    rw [hp]
    refine ⟨h1, Turned.fv hi (fun ro hro => ?_) h3⟩
    obtain ⟨r, rfl, he⟩ := hro
    exact congrArg some he
end
section
variable {w : World} {p l d : Nat} {blk base : List ByteArray} {recs : List (Nat × ByteArray)} {com view : List ByteArray} {F G : Nat → Prop}
/-- Open over a pager that is shut. -/
theorem vopen_any (h : PG w p l d blk base recs false com view F G) {S : Vu} (hS : ComS com S) (hrc : recs.length ≤ 300) :
    Calls Tryz.prog 43 #[.pointer (some ⟨p, 0, none⟩)] w fun e w' => ∃ f rs com' F', e = .returned (.pointer (some ⟨f, 0, none⟩)) ∧ w.heap.size ≤ f ∧ (∀ k, F' k → F k ∨ w.heap.size ≤ k) ∧ FV ⟨f, p, l, d, replay blk rs, base, recs ++ rs, com', F', G⟩ w' false S ∧ ComF com' S ∧ CutInv blk rs com com' ∧ Only (fun k => F k ∨ G k ∨ k = p) w w' := by
  have hsh : view = com.take 72 := h.shut
  rcases hS with ⟨hb, rfl⟩ | ⟨Fo, I, rfl⟩
  · refine (bopen_blank h (by rw [hsh]; exact hb) hrc).mono ?_
    rintro e w' ⟨f, rs, com', view', F', h1, h2, h3, h4, h5, h6, h7⟩
    have hf : FI (NV view') F0 := FI.fresh h5
    have hv : vu F0 = fun _ => none := by
      funext i
      unfold vu
      split <;> rfl
    have hs2 : view' = com'.take 72 := h4.pg.shut
    exact ⟨f, rs, com', F', h1, h2, h3, ⟨view', F0, h4, hf, hv⟩, ⟨F0, by rw [← hs2]; exact hf, hv⟩, h6, h7⟩
  · obtain ⟨d0, hn, _⟩ := I.dir
    refine (bopen_used h ⟨d0, by rw [hsh]; exact hn⟩).mono ?_
    rintro e w' ⟨f, h1, h2, h3, h4⟩
    refine ⟨f, [], com, F, h1, h2, fun k hk => .inl hk, ?_, ⟨Fo, I, rfl⟩, h.still, h4.mono (fun k _ hk => .inr hk)⟩
    rw [List.append_nil]
    exact ⟨view, Fo, h3, by rw [hsh]; exact I, rfl⟩
theorem vnew_any (h : PG w p l d blk base recs false com view F G) {S : Vu} (hS : ComS com S) (hrc : recs.length ≤ 300) :
    Calls Tryz.prog 32 #[.pointer (some ⟨p, 0, none⟩)] w fun e w' => ∃ f rs com' F', e = .returned (.pointer (some ⟨f, 0, none⟩)) ∧ w.heap.size ≤ f ∧ (∀ k, F' k → F k ∨ w.heap.size ≤ k) ∧ FV ⟨f, p, l, d, replay blk rs, base, recs ++ rs, com', F', G⟩ w' false S ∧ ComF com' S ∧ CutInv blk rs com com' ∧ Only (fun k => F k ∨ G k ∨ k = p) w w' := by
  have C := hide (vopen_any h hS hrc)
  go_enter Tryz.func32, Tryz.ntmps32
  go_wp2_with fail
  refine (unhide C).mono ?_
  rintro e w' ⟨f, rs, com', F', rfl, H⟩
  have H := hide H
  go_wp2_with fail
  go_ret
  exact ⟨f, rs, com', F', rfl, unhide H⟩
end
end Go.Proofs.Qxb6500412aGreat
