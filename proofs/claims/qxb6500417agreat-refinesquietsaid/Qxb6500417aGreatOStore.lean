/-
  OWN WORK. THE OBJECT STORE: its memory; small functions.
-/
import Derived.Test.Qxb6500417aGreatODevA
import Derived.Laws.Bits64b
namespace Go.Proofs.Qxb6500417aGreat
open Go.RowKit
set_option linter.unusedSimpArgs false
set_option linter.unusedVariables false

structure Ent where
  state : Nat
  kind : Nat
  size : Nat
  first : Nat
  hash : Nat
  next : Nat
def Ent.zero : Ent := ⟨0, 0, 0, 0, 0, 0⟩
def entCell (e : Ent) : Nat → Value
  | 0 => .int .i64 (e.state : Int)
  | 1 => .int .i64 (e.kind : Int)
  | 2 => .int .i64 (e.size : Int)
  | 3 => .int .i64 (e.first : Int)
  | 4 => .int .u32 (e.hash : Int)
  | _ => .int .i64 (e.next : Int)

def scell (d : Nat) (tab : Nat → Ent) (hd us : Nat → Nat) (nf rt : Nat) (off : Nat) : Value :=
  if off = 0 then .pointer (some ⟨d, 0, none⟩) else if off < 295 then entCell (tab ((off - 1) / 6)) ((off - 1) % 6) else if off < 303 then .int .i64 (hd (off - 295) : Int) else if off < 306 then .int .u64 (us (off - 303) : Int) else if off = 306 then .int .i64 (nf : Int) else .int .i64 (rt : Int)

def SAt (w : World) (s d : Nat) (tab : Nat → Ent) (hd us : Nat → Nat) (nf rt : Nat) : Prop := Has w s (tabV 308 (scell d tab hd us nf rt)) 102

def updT {α : Type} (f : Nat → α) (i : Nat) (x : α) : Nat → α := fun j => if j = i then x else f j
theorem updT_same {α : Type} (f : Nat → α) (i : Nat) (x : α) : updT f i x i = x := by simp [updT]
theorem updT_other {α : Type} (f : Nat → α) (i j : Nat) (x : α) (h : j ≠ i) : updT f i x j = f j := by simp [updT, h]

section
variable {w : World} {s d : Nat} {tab : Nat → Ent} {hd us : Nat → Nat} {nf rt : Nat}

theorem SAt.keep {S : Nat → Prop} {w' : World} (h : SAt w s d tab hd us nf rt) (ho : Only S w w') (hS : ¬ S s) : SAt w' s d tab hd us nf rt := Has.keep h ho hS
theorem SAt.at_ (h : SAt w s d tab hd us nf rt) (off : Nat) (ho : off < 308) : w.cell? ⟨s, off, none⟩ = some (scell d tab hd us nf rt off) ∧ w.frozen? ⟨s, off, none⟩ = false := by
  refine ⟨?_, Has.free h off⟩
  rw [Has.cell h, tabV_get _ _ _ ho]
theorem SAt.dev (h : SAt w s d tab hd us nf rt) : w.cell? ⟨s, 0, none⟩ = some (.pointer (some ⟨d, 0, none⟩)) := (h.at_ 0 (by omega)).1
theorem scell_ent (i f : Nat) (hi : i < 49) (hf : f < 6) : scell d tab hd us nf rt (1 + i * 6 + f) = entCell (tab i) f := by
  unfold scell
  rw [if_neg (by omega), if_pos (by omega)]
  have e1 : (1 + i * 6 + f - 1) / 6 = i := by omega
  have e2 : (1 + i * 6 + f - 1) % 6 = f := by omega
  rw [e1, e2]
theorem SAt.ent (h : SAt w s d tab hd us nf rt) (i f : Nat) (hi : i < 49) (hf : f < 6) : w.cell? ⟨s, 1 + i * 6 + f, none⟩ = some (entCell (tab i) f) ∧ w.frozen? ⟨s, 1 + i * 6 + f, none⟩ = false := by
  have := h.at_ (1 + i * 6 + f) (by omega)
  rwa [scell_ent i f hi hf] at this
theorem SAt.state (h : SAt w s d tab hd us nf rt) (i : Nat) (hi : i < 49) : w.cell? ⟨s, 1 + i * 6, none⟩ = some (.int .i64 ((tab i).state : Int)) ∧ w.frozen? ⟨s, 1 + i * 6, none⟩ = false := h.ent i 0 hi (by omega)
theorem SAt.head (h : SAt w s d tab hd us nf rt) (b : Nat) (hb : b < 8) : w.cell? ⟨s, 295 + b, none⟩ = some (.int .i64 (hd b : Int)) ∧ w.frozen? ⟨s, 295 + b, none⟩ = false := by
  have := h.at_ (295 + b) (by omega)
  have e : scell d tab hd us nf rt (295 + b) = .int .i64 (hd b : Int) := by
    unfold scell
    rw [if_neg (by omega), if_neg (by omega), if_pos (by omega)]
    have e1 : 295 + b - 295 = b := by omega
    rw [e1]
  rwa [e] at this
theorem SAt.word (h : SAt w s d tab hd us nf rt) (k : Nat) (hk : k < 3) : w.cell? ⟨s, 303 + k, none⟩ = some (.int .u64 (us k : Int)) ∧ w.frozen? ⟨s, 303 + k, none⟩ = false := by
  have := h.at_ (303 + k) (by omega)
  have e : scell d tab hd us nf rt (303 + k) = .int .u64 (us k : Int) := by
    unfold scell
    rw [if_neg (by omega), if_neg (by omega), if_neg (by omega), if_pos (by omega)]
    have e1 : 303 + k - 303 = k := by omega
    rw [e1]
  rwa [e] at this
theorem SAt.nfree (h : SAt w s d tab hd us nf rt) : w.cell? ⟨s, 306, none⟩ = some (.int .i64 (nf : Int)) ∧ w.frozen? ⟨s, 306, none⟩ = false := h.at_ 306 (by omega)
theorem SAt.root (h : SAt w s d tab hd us nf rt) : w.cell? ⟨s, 307, none⟩ = some (.int .i64 (rt : Int)) ∧ w.frozen? ⟨s, 307, none⟩ = false := h.at_ 307 (by omega)

theorem SAt.setEnt (h : SAt w s d tab hd us nf rt) (i f : Nat) (hi : i < 49) (hf : f < 6) (e : Ent) (v : Value) (hv : entCell e f = v) (ho : ∀ g, g < 6 → g ≠ f → entCell e g = entCell (tab i) g) : SAt (w.setCell ⟨s, 1 + i * 6 + f, none⟩ v) s d (updT tab i e) hd us nf rt := by
  have := Has.setCell h (1 + i * 6 + f) v
  rw [tabV_set] at this
  unfold SAt
  rw [tabV_congr 308 (g := scell d (updT tab i e) hd us nf rt)] at this
  · exact this
  · intro j hj
    by_cases hj1 : 1 ≤ j ∧ j < 295
    · obtain ⟨a, b, hab, hb⟩ : ∃ a b, j = 1 + a * 6 + b ∧ b < 6 := ⟨(j - 1) / 6, (j - 1) % 6, by omega, by omega⟩
      subst hab
      rw [scell_ent a b (by omega) hb, scell_ent a b (by omega) hb]
      by_cases hai : a = i
      · subst hai
        rw [updT_same]
        by_cases hbf : b = f
        · subst hbf; rw [if_pos rfl, hv]
        · rw [if_neg (by omega), ho b hb hbf]
      · rw [updT_other _ _ _ _ hai, if_neg (by omega)]
    · rw [if_neg (by omega)]
      unfold scell
      by_cases h0 : j = 0
      · rw [if_pos h0, if_pos h0]
      · have h5 : ¬ j < 295 := by omega
        rw [if_neg h0, if_neg h0, if_neg h5, if_neg h5]
theorem SAt.setHead (h : SAt w s d tab hd us nf rt) (b : Nat) (hb : b < 8) (x : Nat) : SAt (w.setCell ⟨s, 295 + b, none⟩ (.int .i64 (x : Int))) s d tab (updT hd b x) us nf rt := by
  have := Has.setCell h (295 + b) (.int .i64 (x : Int))
  rw [tabV_set] at this
  unfold SAt
  rw [tabV_congr 308 (g := scell d tab (updT hd b x) us nf rt)] at this
  · exact this
  · intro j hj
    unfold scell
    by_cases e : j = 295 + b
    · subst e
      rw [if_pos rfl, if_neg (by omega), if_neg (by omega), if_pos (by omega)]
      have e1 : 295 + b - 295 = b := by omega
      rw [e1, updT_same]
    · rw [if_neg e]
      by_cases h3 : 295 ≤ j ∧ j < 303
      · have e2 : j - 295 ≠ b := by omega
        rw [updT_other _ _ _ _ e2]
      · by_cases h0 : j = 0
        · rw [if_pos h0, if_pos h0]
        · rw [if_neg h0, if_neg h0]
          by_cases h1 : j < 295
          · rw [if_pos h1, if_pos h1]
          · have h5 : ¬ j < 303 := by omega
            rw [if_neg h1, if_neg h1, if_neg h5, if_neg h5]
theorem SAt.setWord (h : SAt w s d tab hd us nf rt) (b : Nat) (hb : b < 3) (x : Nat) : SAt (w.setCell ⟨s, 303 + b, none⟩ (.int .u64 (x : Int))) s d tab hd (updT us b x) nf rt := by
  have := Has.setCell h (303 + b) (.int .u64 (x : Int))
  rw [tabV_set] at this
  unfold SAt
  rw [tabV_congr 308 (g := scell d tab hd (updT us b x) nf rt)] at this
  · exact this
  · intro j hj
    unfold scell
    by_cases e : j = 303 + b
    · subst e
      rw [if_pos rfl, if_neg (by omega), if_neg (by omega), if_neg (by omega), if_pos (by omega)]
      have e1 : 303 + b - 303 = b := by omega
      rw [e1, updT_same]
    · rw [if_neg e]
      by_cases h3 : 303 ≤ j ∧ j < 306
      · have e2 : j - 303 ≠ b := by omega
        rw [updT_other _ _ _ _ e2]
      · by_cases h0 : j = 0
        · rw [if_pos h0, if_pos h0]
        · rw [if_neg h0, if_neg h0]
          by_cases h1 : j < 295
          · rw [if_pos h1, if_pos h1]
          · rw [if_neg h1, if_neg h1]
            by_cases h2 : j < 303
            · rw [if_pos h2, if_pos h2]
            · have h5 : ¬ j < 306 := by omega
              rw [if_neg h2, if_neg h2, if_neg h5, if_neg h5]
theorem SAt.setNfree (h : SAt w s d tab hd us nf rt) (x : Nat) : SAt (w.setCell ⟨s, 306, none⟩ (.int .i64 (x : Int))) s d tab hd us x rt := by
  have := Has.setCell h 306 (.int .i64 (x : Int))
  rw [tabV_set] at this
  unfold SAt
  rw [tabV_congr 308 (g := scell d tab hd us x rt)] at this
  · exact this
  · intro j hj
    unfold scell
    by_cases e : j = 306
    · subst e; simp
    · rw [if_neg e]
      simp only [if_neg e]
theorem SAt.setRoot (h : SAt w s d tab hd us nf rt) (x : Nat) : SAt (w.setCell ⟨s, 307, none⟩ (.int .i64 (x : Int))) s d tab hd us nf x := by
  have := Has.setCell h 307 (.int .i64 (x : Int))
  rw [tabV_set] at this
  unfold SAt
  rw [tabV_congr 308 (g := scell d tab hd us nf x)] at this
  · exact this
  · intro j hj
    unfold scell
    by_cases e : j = 307
    · subst e; simp
    · rw [if_neg e]
      by_cases h1 : j = 306
      · subst h1; simp
      · by_cases h0 : j = 0
        · simp [h0]
        · by_cases h2 : j < 295
          · simp [h0, h2]
          · by_cases h3 : j < 303
            · simp [h0, h2, h3]
            · have h4 : j < 306 := by omega
              simp [h0, h2, h3, h4]
end

/-- Is id live? -/
def liveE (e : Ent) : Bool := e.state == 1 || e.state == 2

section
variable {w : World} {s d : Nat} {tab : Nat → Ent} {hd us : Nat → Nat} {nf rt : Nat}
theorem live_out (s : Nat) (w : World) (id : Int) (h : ¬ (1 ≤ id ∧ id ≤ 48)) :
    Calls Tryz.prog 171 #[.pointer (some ⟨s, 0, none⟩), .int .i64 id] w fun e w' => e = .returned (.bool false) ∧ w = w' := by
  by_cases h0 : id < 1
  · have h0' : decide (id < 1) = true := by simpa using h0
    go_enter Tryz.func171, Tryz.ntmps171
    go_wp2
    go_ret
    exact ⟨rfl, rfl⟩
  · have h0' : decide (id < 1) = false := by simpa using h0
    have h8 : 48 < id := by omega
    go_enter Tryz.func171, Tryz.ntmps171
    go_wp2
    go_ret
    exact ⟨rfl, rfl⟩
theorem live_in (h : SAt w s d tab hd us nf rt) (id : Nat) (h1 : 1 ≤ id) (h2 : id ≤ 48) :
    Calls Tryz.prog 171 #[.pointer (some ⟨s, 0, none⟩), .int .i64 id] w fun e w' => e = .returned (.bool (liveE (tab id))) ∧ w = w' := by
  have c := (h.state id (by omega)).1
  have a1 : decide ((id : Int) < 1) = false := by simp; omega
  have a2 : decide (48 < (id : Int)) = false := by simp; omega
  have a3 : (id : Int) < 49 := by omega
  unfold liveE
  generalize (tab id).state = st at *
  by_cases e1 : st = 1
  · subst e1
    go_enter Tryz.func171, Tryz.ntmps171
    go_wp2_with fail
    go_ret
    exact ⟨rfl, rfl⟩
  · have b1 : ((st : Int) == 1) = false := ne_intO (by omega)
    by_cases e2 : st = 2
    · subst e2
      go_enter Tryz.func171, Tryz.ntmps171
      go_wp2_with fail
      go_ret
      exact ⟨rfl, rfl⟩
    · have b2 : ((st : Int) == 2) = false := ne_intO (by omega)
      have b3 : (st == 1 || st == 2) = false := by simp [e1, e2]
      rw [b3]
      go_enter Tryz.func171, Tryz.ntmps171
      go_wp2_with fail
      go_ret
      exact ⟨by first | exact rfl | simp, rfl⟩
end
end Go.Proofs.Qxb6500417aGreat
