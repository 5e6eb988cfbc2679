/-
  OWN WORK. THE GRAPH: its memory (written by tools/gen_gmm.py).
-/
import Derived.Test.Qxb6500417aGreatGP1
namespace Go.Proofs.Qxb6500417aGreat
open Go.RowKit Go.PlainAid
set_option linter.unusedSimpArgs false
set_option linter.unusedVariables false

def crCell (r : Cr) : Nat → Value
  | 0 => .bool r.used
  | 1 => .int .i64 (r.seq : Int)
  | 2 => .int .i64 (r.tree : Int)
  | 3 => .int .i64 (r.np : Int)
  | 4 => .int .i64 (r.p0 : Int)
  | _ => .int .i64 (r.p1 : Int)
def brCell (b : Br) : Nat → Value
  | 0 => .string b.name
  | _ => .int .i64 (b.id : Int)
def gtail (T : Gt) : Nat → Value
  | 0 => .int .i64 (T.nb : Int)
  | 1 => .string T.name
  | 2 => .int .i64 (T.at_ : Int)
  | 3 => .int .i64 (T.mg : Int)
  | 4 => .int .i64 (T.aux : Int)
  | _ => .int .i64 (T.nx : Int)
def gcell (t : Nat) (T : Gt) (off : Nat) : Value :=
  if off = 0 then .pointer (some ⟨t, 0, none⟩) else if off < 295 then crCell (T.c ((off - 1) / 6)) ((off - 1) % 6) else if off < 343 then .int .i64 (T.o (off - 295) : Int) else if off = 343 then .int .i64 (T.n : Int) else if off < 352 then brCell (T.b ((off - 344) / 2)) ((off - 344) % 2) else gtail T (off - 352)
/-- The graph object g over the trees t, with the tables T. -/
def GH (w : World) (g t : Nat) (T : Gt) : Prop := Has w g (tabV 358 (gcell t T)) 89
section
variable {w : World} {g t : Nat} {T : Gt}
theorem GH.keep {S : Nat → Prop} {w' : World} (h : GH w g t T) (ho : Only S w w') (hS : ¬ S g) : GH w' g t T := Has.keep h ho hS
theorem GH.quiet {w' : World} (h : GH w g t T) (ho : Only (fun _ => False) w w') : GH w' g t T := h.keep ho (fun h => h)
theorem GH.lt (h : GH w g t T) : g < w.heap.size := Has.lt h
theorem GH.at_ (h : GH w g t T) (off : Nat) (ho : off < 358) : w.cell? ⟨g, off, none⟩ = some (gcell t T off) ∧ w.frozen? ⟨g, off, none⟩ = false := by
  refine ⟨?_, Has.free h off⟩
  rw [Has.cell h, tabV_get _ _ _ ho]
theorem gcell_com (i f : Nat) (hi : i < 49) (hf : f < 6) : gcell t T (1 + i * 6 + f) = crCell (T.c i) f := by
  unfold gcell
  rw [if_neg (by omega), if_pos (by omega)]
  have e1 : (1 + i * 6 + f - 1) / 6 = i := by omega
  have e2 : (1 + i * 6 + f - 1) % 6 = f := by omega
  rw [e1, e2]
theorem gcell_ord (i : Nat) (hi : i < 48) : gcell t T (295 + i) = .int .i64 (T.o i : Int) := by
  unfold gcell
  rw [if_neg (by omega), if_neg (by omega), if_pos (by omega)]
  have e1 : 295 + i - 295 = i := by omega
  rw [e1]
theorem gcell_br (i f : Nat) (hi : i < 4) (hf : f < 2) : gcell t T (344 + i * 2 + f) = brCell (T.b i) f := by
  unfold gcell
  rw [if_neg (by omega), if_neg (by omega), if_neg (by omega), if_neg (by omega), if_pos (by omega)]
  have e1 : (344 + i * 2 + f - 344) / 2 = i := by omega
  have e2 : (344 + i * 2 + f - 344) % 2 = f := by omega
  rw [e1, e2]
theorem GH.tr (h : GH w g t T) : w.cell? ⟨g, 0, none⟩ = some (.pointer (some ⟨t, 0, none⟩)) ∧ w.frozen? ⟨g, 0, none⟩ = false := h.at_ 0 (by omega)
theorem GH.com (h : GH w g t T) (i f : Nat) (hi : i < 49) (hf : f < 6) : w.cell? ⟨g, 1 + i * 6 + f, none⟩ = some (crCell (T.c i) f) ∧ w.frozen? ⟨g, 1 + i * 6 + f, none⟩ = false := by
  have := h.at_ (1 + i * 6 + f) (by omega)
  rwa [gcell_com i f hi hf] at this
theorem GH.com0 (h : GH w g t T) (i : Nat) (hi : i < 49) : w.cell? ⟨g, 1 + i * 6, none⟩ = some (.bool (T.c i).used) ∧ w.frozen? ⟨g, 1 + i * 6, none⟩ = false := h.com i 0 hi (by omega)
theorem GH.ord (h : GH w g t T) (i : Nat) (hi : i < 48) : w.cell? ⟨g, 295 + i, none⟩ = some (.int .i64 (T.o i : Int)) ∧ w.frozen? ⟨g, 295 + i, none⟩ = false := by
  have := h.at_ (295 + i) (by omega)
  rwa [gcell_ord i hi] at this
theorem GH.brn (h : GH w g t T) (i : Nat) (hi : i < 4) : w.cell? ⟨g, 344 + i * 2, none⟩ = some (.string (T.b i).name) ∧ w.frozen? ⟨g, 344 + i * 2, none⟩ = false := by
  have := h.at_ (344 + i * 2) (by omega)
  have e := gcell_br (t := t) (T := T) i 0 hi (by omega)
  rw [Nat.add_zero] at e
  rwa [e] at this
theorem GH.bri (h : GH w g t T) (i : Nat) (hi : i < 4) : w.cell? ⟨g, 344 + i * 2 + 1, none⟩ = some (.int .i64 ((T.b i).id : Int)) ∧ w.frozen? ⟨g, 344 + i * 2 + 1, none⟩ = false := by
  have := h.at_ (344 + i * 2 + 1) (by omega)
  rwa [gcell_br i 1 hi (by omega)] at this
theorem GH.n_ (h : GH w g t T) : w.cell? ⟨g, 343, none⟩ = some (.int .i64 (T.n : Int)) ∧ w.frozen? ⟨g, 343, none⟩ = false := h.at_ 343 (by omega)
theorem GH.nb_ (h : GH w g t T) : w.cell? ⟨g, 352, none⟩ = some (.int .i64 (T.nb : Int)) ∧ w.frozen? ⟨g, 352, none⟩ = false := h.at_ 352 (by omega)
theorem GH.name_ (h : GH w g t T) : w.cell? ⟨g, 353, none⟩ = some (.string T.name) ∧ w.frozen? ⟨g, 353, none⟩ = false := h.at_ 353 (by omega)
theorem GH.at__ (h : GH w g t T) : w.cell? ⟨g, 354, none⟩ = some (.int .i64 (T.at_ : Int)) ∧ w.frozen? ⟨g, 354, none⟩ = false := h.at_ 354 (by omega)
theorem GH.mg_ (h : GH w g t T) : w.cell? ⟨g, 355, none⟩ = some (.int .i64 (T.mg : Int)) ∧ w.frozen? ⟨g, 355, none⟩ = false := h.at_ 355 (by omega)
theorem GH.aux_ (h : GH w g t T) : w.cell? ⟨g, 356, none⟩ = some (.int .i64 (T.aux : Int)) ∧ w.frozen? ⟨g, 356, none⟩ = false := h.at_ 356 (by omega)
theorem GH.nx_ (h : GH w g t T) : w.cell? ⟨g, 357, none⟩ = some (.int .i64 (T.nx : Int)) ∧ w.frozen? ⟨g, 357, none⟩ = false := h.at_ 357 (by omega)
theorem gcell_eq {T T' : Gt} (j : Nat) (hj : j < 358) (h1 : ∀ a b, a < 49 → b < 6 → j = 1 + a * 6 + b → crCell (T.c a) b = crCell (T'.c a) b) (h2 : ∀ a, a < 48 → j = 295 + a → T.o a = T'.o a) (h3 : j = 343 → T.n = T'.n) (h4 : ∀ a b, a < 4 → b < 2 → j = 344 + a * 2 + b → brCell (T.b a) b = brCell (T'.b a) b) (h5 : ∀ a, j = 352 + a → gtail T a = gtail T' a) : gcell t T j = gcell t T' j := by
  unfold gcell
  by_cases e0 : j = 0
  · rw [if_pos e0, if_pos e0]
  rw [if_neg e0, if_neg e0]
  by_cases e1 : j < 295
  · rw [if_pos e1, if_pos e1]
    exact h1 ((j - 1) / 6) ((j - 1) % 6) (by omega) (by omega) (by omega)
  rw [if_neg e1, if_neg e1]
  by_cases e2 : j < 343
  · rw [if_pos e2, if_pos e2, h2 (j - 295) (by omega) (by omega)]
  rw [if_neg e2, if_neg e2]
  by_cases e3 : j = 343
  · rw [if_pos e3, if_pos e3, h3 e3]
  rw [if_neg e3, if_neg e3]
  by_cases e4 : j < 352
  · rw [if_pos e4, if_pos e4]
    exact h4 ((j - 344) / 2) ((j - 344) % 2) (by omega) (by omega) (by omega)
  rw [if_neg e4, if_neg e4]
  exact h5 (j - 352) (by omega)
/-- The six cells of row i turned. -/
def put6 (w : World) (g i : Nat) (r : Cr) : World := (((((w.setCell ⟨g, 1 + i * 6, none⟩ (.bool r.used)).setCell ⟨g, 1 + i * 6 + 1, none⟩ (.int .i64 (r.seq : Int))).setCell ⟨g, 1 + i * 6 + 2, none⟩ (.int .i64 (r.tree : Int))).setCell ⟨g, 1 + i * 6 + 3, none⟩ (.int .i64 (r.np : Int))).setCell ⟨g, 1 + i * 6 + 4, none⟩ (.int .i64 (r.p0 : Int))).setCell ⟨g, 1 + i * 6 + 5, none⟩ (.int .i64 (r.p1 : Int))
def Gt.setC (T : Gt) (i : Nat) (r : Cr) : Gt := { T with c := updT T.c i r }
def Gt.setO (T : Gt) (i x : Nat) : Gt := { T with o := updT T.o i x }
def Gt.setB (T : Gt) (i : Nat) (b : Br) : Gt := { T with b := updT T.b i b }
theorem GH.putC (h : GH w g t T) (i : Nat) (hi : i < 49) (r : Cr) : GH (put6 w g i r) g t (T.setC i r) := by
  have := (((((Has.setCell h (1 + i * 6) (.bool r.used)).setCell (1 + i * 6 + 1) (.int .i64 (r.seq : Int))).setCell (1 + i * 6 + 2) (.int .i64 (r.tree : Int))).setCell (1 + i * 6 + 3) (.int .i64 (r.np : Int))).setCell (1 + i * 6 + 4) (.int .i64 (r.p0 : Int))).setCell (1 + i * 6 + 5) (.int .i64 (r.p1 : Int))
  simp only [tabV_set] at this
  unfold GH put6
  rw [tabV_congr 358 (g := gcell t (T.setC i r))] at this
  · exact this
  · intro j hj
    have hc : (T.setC i r).c i = r := updT_same _ _ _
    by_cases e5 : j = 1 + i * 6 + 5
    · subst e5
      rw [if_pos rfl]
      have q := gcell_com (t := t) (T := T.setC i r) i 5 hi (by omega)
      rw [hc] at q
      exact q.symm
    rw [if_neg e5]
    by_cases e4 : j = 1 + i * 6 + 4
    · subst e4
      rw [if_pos rfl]
      have q := gcell_com (t := t) (T := T.setC i r) i 4 hi (by omega)
      rw [hc] at q
      exact q.symm
    rw [if_neg e4]
    by_cases e3 : j = 1 + i * 6 + 3
    · subst e3
      rw [if_pos rfl]
      have q := gcell_com (t := t) (T := T.setC i r) i 3 hi (by omega)
      rw [hc] at q
      exact q.symm
    rw [if_neg e3]
    by_cases e2 : j = 1 + i * 6 + 2
    · subst e2
      rw [if_pos rfl]
      have q := gcell_com (t := t) (T := T.setC i r) i 2 hi (by omega)
      rw [hc] at q
      exact q.symm
    rw [if_neg e2]
    by_cases e1 : j = 1 + i * 6 + 1
    · subst e1
      rw [if_pos rfl]
      have q := gcell_com (t := t) (T := T.setC i r) i 1 hi (by omega)
      rw [hc] at q
      exact q.symm
    rw [if_neg e1]
    by_cases e0 : j = 1 + i * 6
    · subst e0
      rw [if_pos rfl]
      have q := gcell_com (t := t) (T := T.setC i r) i 0 hi (by omega)
      rw [hc] at q
      exact q.symm
    rw [if_neg e0]
    refine gcell_eq j hj (fun a b ha hb hab => ?_) (fun _ _ _ => rfl) (fun _ => rfl) (fun _ _ _ _ _ => rfl) (fun a _ => rfl)
    have : (T.setC i r).c a = T.c a := updT_other _ _ _ _ (by intro e; subst e; omega)
    rw [this]
theorem GH.putO (h : GH w g t T) (i : Nat) (hi : i < 48) (x : Nat) : GH (w.setCell ⟨g, 295 + i, none⟩ (.int .i64 (x : Int))) g t (T.setO i x) := by
  have := Has.setCell h (295 + i) (.int .i64 (x : Int))
  rw [tabV_set] at this
  unfold GH
  rw [tabV_congr 358 (g := gcell t (T.setO i x))] at this
  · exact this
  · intro j hj
    by_cases e : j = 295 + i
    · subst e
      rw [if_pos rfl, gcell_ord i hi]
      show _ = Value.int .i64 ((updT T.o i x i : Nat) : Int)
      rw [updT_same]
    · rw [if_neg e]
      refine gcell_eq j hj (fun _ _ _ _ _ => rfl) (fun a ha hab => ?_) (fun _ => rfl) (fun _ _ _ _ _ => rfl) (fun a _ => rfl)
      exact (updT_other _ _ _ _ (by intro e; subst e; omega)).symm
theorem GH.putB (h : GH w g t T) (i : Nat) (hi : i < 4) (b : Br) : GH ((w.setCell ⟨g, 344 + i * 2, none⟩ (.string b.name)).setCell ⟨g, 344 + i * 2 + 1, none⟩ (.int .i64 (b.id : Int))) g t (T.setB i b) := by
  have := (Has.setCell h (344 + i * 2) (.string b.name)).setCell (344 + i * 2 + 1) (.int .i64 (b.id : Int))
  simp only [tabV_set] at this
  unfold GH
  rw [tabV_congr 358 (g := gcell t (T.setB i b))] at this
  · exact this
  · intro j hj
    have hc : (T.setB i b).b i = b := updT_same _ _ _
    by_cases e1 : j = 344 + i * 2 + 1
    · subst e1
      rw [if_pos rfl, gcell_br i 1 hi (by omega), hc]; rfl
    rw [if_neg e1]
    by_cases e0 : j = 344 + i * 2
    · subst e0
      rw [if_pos rfl]
      have q := gcell_br (t := t) (T := T.setB i b) i 0 hi (by omega)
      rw [hc] at q
      exact q.symm
    rw [if_neg e0]
    refine gcell_eq j hj (fun _ _ _ _ _ => rfl) (fun _ _ _ => rfl) (fun _ => rfl) (fun a b' ha hb hab => ?_) (fun a _ => rfl)
    have : (T.setB i b).b a = T.b a := updT_other _ _ _ _ (by intro e; subst e; omega)
    rw [this]
theorem GH.putBi (h : GH w g t T) (i : Nat) (hi : i < 4) (x : Nat) : GH (w.setCell ⟨g, 344 + i * 2 + 1, none⟩ (.int .i64 (x : Int))) g t (T.setB i ⟨(T.b i).name, x⟩) := by
  have := Has.setCell h (344 + i * 2 + 1) (.int .i64 (x : Int))
  rw [tabV_set] at this
  unfold GH
  rw [tabV_congr 358 (g := gcell t (T.setB i ⟨(T.b i).name, x⟩))] at this
  · exact this
  · intro j hj
    by_cases e1 : j = 344 + i * 2 + 1
    · subst e1
      rw [if_pos rfl, gcell_br i 1 hi (by omega)]
      show _ = brCell (updT T.b i _ i) 1
      rw [updT_same]; rfl
    rw [if_neg e1]
    refine gcell_eq j hj (fun _ _ _ _ _ => rfl) (fun _ _ _ => rfl) (fun _ => rfl) (fun a b' ha hb hab => ?_) (fun a _ => rfl)
    show _ = brCell (updT T.b i _ a) b'
    by_cases ea : a = i
    · subst ea
      rw [updT_same]
      match b', hb with
      | 0, _ => rfl
      | 1, _ => omega
    · rw [updT_other _ _ _ _ ea]
theorem GH.putN (h : GH w g t T) (x : Nat) : GH (w.setCell ⟨g, 343, none⟩ (.int .i64 (x : Int))) g t { T with n := x } := by
  have := Has.setCell h 343 (.int .i64 (x : Int))
  rw [tabV_set] at this
  unfold GH
  rw [tabV_congr 358 (g := gcell t { T with n := x })] at this
  · exact this
  · intro j hj
    by_cases e : j = 343
    · subst e; rw [if_pos rfl]; rfl
    · rw [if_neg e]
      exact gcell_eq j hj (fun _ _ _ _ _ => rfl) (fun _ _ _ => rfl) (fun e' => absurd e' e) (fun _ _ _ _ _ => rfl) (fun a _ => rfl)
theorem GH.putNb (h : GH w g t T) (x : Nat) : GH (w.setCell ⟨g, 352, none⟩ (.int .i64 (x : Int))) g t { T with nb := x } := by
  have := Has.setCell h 352 (.int .i64 (x : Int))
  rw [tabV_set] at this
  unfold GH
  rw [tabV_congr 358 (g := gcell t { T with nb := x })] at this
  · exact this
  · intro j hj
    by_cases e : j = 352
    · subst e; rw [if_pos rfl]; rfl
    · rw [if_neg e]
      refine gcell_eq j hj (fun _ _ _ _ _ => rfl) (fun _ _ _ => rfl) (fun _ => rfl) (fun _ _ _ _ _ => rfl) (fun a ha => ?_)
      match a with
      | 0 => omega
      | 1 => rfl
      | 2 => rfl
      | 3 => rfl
      | 4 => rfl
      | 5 => rfl
      | q + 6 => omega
theorem GH.putName (h : GH w g t T) (x : ByteArray) : GH (w.setCell ⟨g, 353, none⟩ (.string x)) g t { T with name := x } := by
  have := Has.setCell h 353 (.string x)
  rw [tabV_set] at this
  unfold GH
  rw [tabV_congr 358 (g := gcell t { T with name := x })] at this
  · exact this
  · intro j hj
    by_cases e : j = 353
    · subst e; rw [if_pos rfl]; rfl
    · rw [if_neg e]
      refine gcell_eq j hj (fun _ _ _ _ _ => rfl) (fun _ _ _ => rfl) (fun _ => rfl) (fun _ _ _ _ _ => rfl) (fun a ha => ?_)
      match a with
      | 0 => rfl
      | 1 => omega
      | 2 => rfl
      | 3 => rfl
      | 4 => rfl
      | 5 => rfl
      | q + 6 => omega
theorem GH.putAt (h : GH w g t T) (x : Nat) : GH (w.setCell ⟨g, 354, none⟩ (.int .i64 (x : Int))) g t { T with at_ := x } := by
  have := Has.setCell h 354 (.int .i64 (x : Int))
  rw [tabV_set] at this
  unfold GH
  rw [tabV_congr 358 (g := gcell t { T with at_ := x })] at this
  · exact this
  · intro j hj
    by_cases e : j = 354
    · subst e; rw [if_pos rfl]; rfl
    · rw [if_neg e]
      refine gcell_eq j hj (fun _ _ _ _ _ => rfl) (fun _ _ _ => rfl) (fun _ => rfl) (fun _ _ _ _ _ => rfl) (fun a ha => ?_)
      match a with
      | 0 => rfl
      | 1 => rfl
      | 2 => omega
      | 3 => rfl
      | 4 => rfl
      | 5 => rfl
      | q + 6 => omega
theorem GH.putMg (h : GH w g t T) (x : Nat) : GH (w.setCell ⟨g, 355, none⟩ (.int .i64 (x : Int))) g t { T with mg := x } := by
  have := Has.setCell h 355 (.int .i64 (x : Int))
  rw [tabV_set] at this
  unfold GH
  rw [tabV_congr 358 (g := gcell t { T with mg := x })] at this
  · exact this
  · intro j hj
    by_cases e : j = 355
    · subst e; rw [if_pos rfl]; rfl
    · rw [if_neg e]
      refine gcell_eq j hj (fun _ _ _ _ _ => rfl) (fun _ _ _ => rfl) (fun _ => rfl) (fun _ _ _ _ _ => rfl) (fun a ha => ?_)
      match a with
      | 0 => rfl
      | 1 => rfl
      | 2 => rfl
      | 3 => omega
      | 4 => rfl
      | 5 => rfl
      | q + 6 => omega
theorem GH.putAux (h : GH w g t T) (x : Nat) : GH (w.setCell ⟨g, 356, none⟩ (.int .i64 (x : Int))) g t { T with aux := x } := by
  have := Has.setCell h 356 (.int .i64 (x : Int))
  rw [tabV_set] at this
  unfold GH
  rw [tabV_congr 358 (g := gcell t { T with aux := x })] at this
  · exact this
  · intro j hj
    by_cases e : j = 356
    · subst e; rw [if_pos rfl]; rfl
    · rw [if_neg e]
      refine gcell_eq j hj (fun _ _ _ _ _ => rfl) (fun _ _ _ => rfl) (fun _ => rfl) (fun _ _ _ _ _ => rfl) (fun a ha => ?_)
      match a with
      | 0 => rfl
      | 1 => rfl
      | 2 => rfl
      | 3 => rfl
      | 4 => omega
      | 5 => rfl
      | q + 6 => omega
theorem GH.putNx (h : GH w g t T) (x : Nat) : GH (w.setCell ⟨g, 357, none⟩ (.int .i64 (x : Int))) g t { T with nx := x } := by
  have := Has.setCell h 357 (.int .i64 (x : Int))
  rw [tabV_set] at this
  unfold GH
  rw [tabV_congr 358 (g := gcell t { T with nx := x })] at this
  · exact this
  · intro j hj
    by_cases e : j = 357
    · subst e; rw [if_pos rfl]; rfl
    · rw [if_neg e]
      refine gcell_eq j hj (fun _ _ _ _ _ => rfl) (fun _ _ _ => rfl) (fun _ => rfl) (fun _ _ _ _ _ => rfl) (fun a ha => ?_)
      match a with
      | 0 => rfl
      | 1 => rfl
      | 2 => rfl
      | 3 => rfl
      | 4 => rfl
      | 5 => omega
      | q + 6 => omega
/-- The tables as memory shows them. -/
structure GEq (T T' : Gt) : Prop where
  c : ∀ i, i < 49 → T.c i = T'.c i
  o : ∀ i, i < 48 → T.o i = T'.o i
  n : T.n = T'.n
  b : ∀ i, i < 4 → T.b i = T'.b i
  nb : T.nb = T'.nb
  name : T.name = T'.name
  at_ : T.at_ = T'.at_
  mg : T.mg = T'.mg
  aux : T.aux = T'.aux
  nx : T.nx = T'.nx
theorem GH.congr {T' : Gt} (h : GH w g t T) (he : GEq T T') : GH w g t T' := by
  unfold GH at h ⊢
  rw [← tabV_congr 358 (f := gcell t T)]
  · exact h
  · intro j hj
    refine gcell_eq j hj (fun a b ha _ _ => by rw [he.c a ha]) (fun a ha _ => he.o a ha) (fun _ => he.n) (fun a b ha _ _ => by rw [he.b a ha]) (fun a ha => ?_)
    match a with
    | 0 => show Value.int .i64 (T.nb : Int) = _; rw [he.nb]; rfl
    | 1 => show Value.string T.name = _; rw [he.name]; rfl
    | 2 => show Value.int .i64 (T.at_ : Int) = _; rw [he.at_]; rfl
    | 3 => show Value.int .i64 (T.mg : Int) = _; rw [he.mg]; rfl
    | 4 => show Value.int .i64 (T.aux : Int) = _; rw [he.aux]; rfl
    | 5 => show Value.int .i64 (T.nx : Int) = _; rw [he.nx]; rfl
    | q + 6 => omega
end
end Go.Proofs.Qxb6500417aGreat
