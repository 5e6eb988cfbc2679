/-
  OWN WORK. THE TREE MODEL: its memory.
-/
import Derived.Test.Qxb6500421aGreatTGet
import Derived.Test.Qxb6500421aGreatTEnt2
import Derived.Laws.CopyRow
import Derived.Laws.IdiomCopy
namespace Go.Proofs.Qxb6500421aGreat
open Go.RowKit Go.PlainAid
set_option linter.unusedSimpArgs false
set_option linter.unusedVariables false

def iV (l : List Int) : List Value := l.map (fun (x : Int) => Value.int .i64 x)
theorem iV_len (l : List Int) : (iV l).length = l.length := by simp [iV]
theorem iV_snoc (l : List Int) (x : Int) : iV (l ++ [x]) = iV l ++ [.int .i64 x] := by simp [iV]
def IntsIn (w : World) (v : Value) (l : List Int) : Prop := ∃ a cap, v = .slice a l.length cap ∧ (0 < l.length → ∃ g, a = some ⟨g, 0, none⟩ ∧ ∀ i (h : i < l.length), w.cell? ⟨g, i, none⟩ = some (.int .i64 l[i]))
def OwnI (w : World) (v : Value) (l : List Int) : Prop := w.ownsRow 0 3 1 v l.length (iV l)
theorem IntsIn.keep {S : Nat → Prop} {w w' : World} {v : Value} {l : List Int} (h : IntsIn w v l) (ho : Only S w w') (hS : ∀ k, v.ownBlock = some k → ¬ S k) : IntsIn w' v l := by
  obtain ⟨a, cap, rfl, h2⟩ := h
  refine ⟨a, cap, rfl, fun hn => ?_⟩
  obtain ⟨g, rfl, hc⟩ := h2 hn
  refine ⟨g, rfl, fun i hi => ?_⟩
  have hl : g < w.heap.size := World.block_lt_of_cell? w _ (hc 0 hn)
  rw [World.cell?_of_block (ho.block g hl (hS g rfl))]
  exact hc i hi
theorem IntsIn.nil (w : World) : IntsIn w (.slice none 0 0) [] := ⟨_, _, rfl, fun h => absurd h (by simp)⟩
theorem EntsIn.nil (w : World) : EntsIn w (.slice none 0 0) [] := ⟨_, _, rfl, fun h => absurd h (by simp)⟩
theorem OwnI.keep {S : Nat → Prop} {w w' : World} {v : Value} {l : List Int} (h : OwnI w v l) (ho : Only S w w') (hS : ∀ k, v.ownBlock = some k → ¬ S k) : OwnI w' v l := ownsRow_keep h ho hS
theorem OwnI.nil (w : World) : OwnI w (.slice none 0 0) [] := World.ownsRow_nil _ _ _ _

structure US where
  st : Nat
  kd : Nat
  dv : Value
  lv : Value
  kv : Value
def usCell (e : US) : Nat → Value
  | 0 => .int .i64 (e.st : Int)
  | 1 => .int .i64 (e.kd : Int)
  | 2 => e.dv
  | 3 => e.lv
  | _ => e.kv
def US.zero : US := ⟨0, 0, .slice none 0 0, .slice none 0 0, .slice none 0 0⟩
def ucell (sl : Nat → US) (rt : Nat) (base hist : Value) (off : Nat) : Value :=
  if off < 245 then usCell (sl (off / 5)) (off % 5) else if off = 245 then .int .i64 (rt : Int) else if off = 246 then base else hist
def UM (w : World) (m : Nat) (sl : Nat → US) (rt : Nat) (base hist : Value) : Prop := Has w m (tabV 248 (ucell sl rt base hist)) 61

section
variable {w : World} {m : Nat} {sl : Nat → US} {rt : Nat} {base hist : Value}
theorem UM.keep {S : Nat → Prop} {w' : World} (h : UM w m sl rt base hist) (ho : Only S w w') (hS : ¬ S m) : UM w' m sl rt base hist := Has.keep h ho hS
theorem ucell_slot (i f : Nat) (hi : i < 49) (hf : f < 5) : ucell sl rt base hist (i * 5 + f) = usCell (sl i) f := by
  unfold ucell
  rw [if_pos (by omega)]
  have e1 : (i * 5 + f) / 5 = i := by omega
  have e2 : (i * 5 + f) % 5 = f := by omega
  rw [e1, e2]
theorem UM.slot (h : UM w m sl rt base hist) (i f : Nat) (hi : i < 49) (hf : f < 5) : w.cell? ⟨m, i * 5 + f, none⟩ = some (usCell (sl i) f) ∧ w.frozen? ⟨m, i * 5 + f, none⟩ = false := by
  refine ⟨?_, Has.free h _⟩
  rw [Has.cell h, tabV_get _ _ _ (by omega), ucell_slot i f hi hf]
theorem UM.state (h : UM w m sl rt base hist) (i : Nat) (hi : i < 49) : w.cell? ⟨m, i * 5, none⟩ = some (.int .i64 ((sl i).st : Int)) ∧ w.frozen? ⟨m, i * 5, none⟩ = false := h.slot i 0 hi (by omega)
theorem UM.root (h : UM w m sl rt base hist) : w.cell? ⟨m, 245, none⟩ = some (.int .i64 (rt : Int)) ∧ w.frozen? ⟨m, 245, none⟩ = false := by
  refine ⟨?_, Has.free h _⟩
  rw [Has.cell h, tabV_get _ _ _ (by omega)]; rfl
theorem UM.base_ (h : UM w m sl rt base hist) : w.cell? ⟨m, 246, none⟩ = some base ∧ w.frozen? ⟨m, 246, none⟩ = false := by
  refine ⟨?_, Has.free h _⟩
  rw [Has.cell h, tabV_get _ _ _ (by omega)]; rfl
theorem UM.hist_ (h : UM w m sl rt base hist) : w.cell? ⟨m, 247, none⟩ = some hist ∧ w.frozen? ⟨m, 247, none⟩ = false := by
  refine ⟨?_, Has.free h _⟩
  rw [Has.cell h, tabV_get _ _ _ (by omega)]; rfl
theorem ucell_eq {sl sl' : Nat → US} {rt rt' : Nat} {b b' hi hi' : Value} (j : Nat) (hj : j < 248) (h1 : ∀ a b, a < 49 → b < 5 → j = a * 5 + b → usCell (sl a) b = usCell (sl' a) b) (h2 : j = 245 → rt = rt') (h3 : j = 246 → b = b') (h4 : j = 247 → hi = hi') : ucell sl rt b hi j = ucell sl' rt' b' hi' j := by
  unfold ucell
  by_cases e : j < 245
  · rw [if_pos e, if_pos e]
    exact h1 (j / 5) (j % 5) (by omega) (by omega) (by omega)
  · rw [if_neg e, if_neg e]
    by_cases e1 : j = 245
    · rw [if_pos e1, if_pos e1, h2 e1]
    · rw [if_neg e1, if_neg e1]
      by_cases e2 : j = 246
      · rw [if_pos e2, if_pos e2, h3 e2]
      · rw [if_neg e2, if_neg e2, h4 (by omega)]
/-- The five cells of slot i turned. -/
def put5 (w : World) (m i : Nat) (e : US) : World := ((((w.setCell ⟨m, i * 5, none⟩ (.int .i64 (e.st : Int))).setCell ⟨m, i * 5 + 1, none⟩ (.int .i64 (e.kd : Int))).setCell ⟨m, i * 5 + 2, none⟩ e.dv).setCell ⟨m, i * 5 + 3, none⟩ e.lv).setCell ⟨m, i * 5 + 4, none⟩ e.kv
theorem UM.putSlot (h : UM w m sl rt base hist) (i : Nat) (hi : i < 49) (e : US) : UM (put5 w m i e) m (updT sl i e) rt base hist := by
  have := ((((Has.setCell h (i * 5) (.int .i64 (e.st : Int))).setCell (i * 5 + 1) (.int .i64 (e.kd : Int))).setCell (i * 5 + 2) e.dv).setCell (i * 5 + 3) e.lv).setCell (i * 5 + 4) e.kv
  simp only [tabV_set] at this
  unfold UM put5
  rw [tabV_congr 248 (g := ucell (updT sl i e) rt base hist)] at this
  · exact this
  · intro j hj
    by_cases e4 : j = i * 5 + 4
    · subst e4; rw [if_pos rfl, ucell_slot i 4 hi (by omega), updT_same]; rfl
    rw [if_neg e4]
    by_cases e3 : j = i * 5 + 3
    · subst e3; rw [if_pos rfl, ucell_slot i 3 hi (by omega), updT_same]; rfl
    rw [if_neg e3]
    by_cases e2 : j = i * 5 + 2
    · subst e2; rw [if_pos rfl, ucell_slot i 2 hi (by omega), updT_same]; rfl
    rw [if_neg e2]
    by_cases e1 : j = i * 5 + 1
    · subst e1; rw [if_pos rfl, ucell_slot i 1 hi (by omega), updT_same]; rfl
    rw [if_neg e1]
    by_cases e0 : j = i * 5
    · subst e0; rw [if_pos rfl]
      have := ucell_slot (sl := updT sl i e) (rt := rt) (base := base) (hist := hist) i 0 hi (by omega)
      rw [Nat.add_zero] at this
      rw [this, updT_same]; rfl
    · rw [if_neg e0]
      refine ucell_eq j hj (fun a b ha hb hab => ?_) (fun _ => rfl) (fun _ => rfl) (fun _ => rfl)
      rw [updT_other _ _ _ _ (by intro e; subst e; omega)]
theorem UM.setState (h : UM w m sl rt base hist) (i : Nat) (hi : i < 49) (x : Nat) : UM (w.setCell ⟨m, i * 5, none⟩ (.int .i64 (x : Int))) m (updT sl i { sl i with st := x }) rt base hist := by
  have := Has.setCell h (i * 5) (.int .i64 (x : Int))
  rw [tabV_set] at this
  unfold UM
  rw [tabV_congr 248 (g := ucell (updT sl i { sl i with st := x }) rt base hist)] at this
  · exact this
  · intro j hj
    by_cases e0 : j = i * 5
    · subst e0; rw [if_pos rfl]
      have := ucell_slot (sl := updT sl i { sl i with st := x }) (rt := rt) (base := base) (hist := hist) i 0 hi (by omega)
      rw [Nat.add_zero] at this
      rw [this, updT_same]; rfl
    · rw [if_neg e0]
      refine ucell_eq j hj (fun a b ha hb hab => ?_) (fun _ => rfl) (fun _ => rfl) (fun _ => rfl)
      by_cases ea : a = i
      · subst ea; rw [updT_same]
        match b, hb with
        | 0, _ => omega
        | 1, _ => rfl
        | 2, _ => rfl
        | 3, _ => rfl
        | 4, _ => rfl
      · rw [updT_other _ _ _ _ ea]
theorem UM.setRoot (h : UM w m sl rt base hist) (x : Nat) : UM (w.setCell ⟨m, 245, none⟩ (.int .i64 (x : Int))) m sl x base hist := by
  have := Has.setCell h 245 (.int .i64 (x : Int))
  rw [tabV_set] at this
  unfold UM
  rw [tabV_congr 248 (g := ucell sl x base hist)] at this
  · exact this
  · intro j hj
    by_cases e : j = 245
    · subst e; rfl
    · rw [if_neg e]; exact ucell_eq j hj (fun _ _ _ _ _ => rfl) (fun h => absurd h e) (fun _ => rfl) (fun _ => rfl)
theorem UM.setBase (h : UM w m sl rt base hist) (x : Value) : UM (w.setCell ⟨m, 246, none⟩ x) m sl rt x hist := by
  have := Has.setCell h 246 x
  rw [tabV_set] at this
  unfold UM
  rw [tabV_congr 248 (g := ucell sl rt x hist)] at this
  · exact this
  · intro j hj
    by_cases e : j = 246
    · subst e; rfl
    · rw [if_neg e]; exact ucell_eq j hj (fun _ _ _ _ _ => rfl) (fun _ => rfl) (fun h => absurd h e) (fun _ => rfl)
theorem UM.setHist (h : UM w m sl rt base hist) (x : Value) : UM (w.setCell ⟨m, 247, none⟩ x) m sl rt base x := by
  have := Has.setCell h 247 x
  rw [tabV_set] at this
  unfold UM
  rw [tabV_congr 248 (g := ucell sl rt base x)] at this
  · exact this
  · intro j hj
    by_cases e : j = 247
    · subst e; rfl
    · rw [if_neg e]; exact ucell_eq j hj (fun _ _ _ _ _ => rfl) (fun _ => rfl) (fun _ => rfl) (fun h => absurd h e)
end
theorem only5 {w : World} {S : Nat → Prop} {w0 : World} {m i : Nat} (h : Only S w0 w) (hS : m < w0.heap.size → S m) (e : US) : Only S w0 (put5 w m i e) :=
  ((((h.setCell (p := ⟨m, i * 5, none⟩) hS _).setCell (p := ⟨m, i * 5 + 1, none⟩) hS _).setCell (p := ⟨m, i * 5 + 2, none⟩) hS _).setCell (p := ⟨m, i * 5 + 3, none⟩) hS _).setCell (p := ⟨m, i * 5 + 4, none⟩) hS _

/-- The bytes that the model holds of a slot: a tree has none. -/
def mD (s : Sl) : List Nat := if s.kd = 2 then [] else s.dat
def kidL (s : Sl) : List Int := s.rws.map (fun r => (r.id : Int))
/-- A block of one of a slot's three rows. -/
def US.blk (e : US) (g : Nat) : Prop := e.dv.ownBlock = some g ∨ e.lv.ownBlock = some g ∨ e.kv.ownBlock = some g
/-- The slot e shows s. -/
structure UOk (w : World) (e : US) (s : Sl) : Prop where
  st : e.st = s.st
  kd : e.kd = s.kd
  db : BytesAt w e.dv (mD s).length (dF (mD s))
  lb : EntsIn w e.lv s.lst
  kb : IntsIn w e.kv (kidL s)
  d180 : (mD s).length ≤ 180
  l8 : s.lst.length ≤ 8
  k8 : (kidL s).length ≤ 8
theorem UOk.keep {S : Nat → Prop} {w w' : World} {e : US} {s : Sl} (h : UOk w e s) (ho : Only S w w') (hS : ∀ g, e.blk g → ¬ S g) : UOk w' e s :=
  ⟨h.st, h.kd, h.db.keep ho (fun g hg => hS g (.inl hg)), h.lb.keep ho (fun g hg => hS g (.inr (.inl hg))), h.kb.keep ho (fun g hg => hS g (.inr (.inr hg))), h.d180, h.l8, h.k8⟩
theorem UOk.free (w : World) : UOk w US.zero Sl.free := ⟨rfl, rfl, ⟨none, 0, rfl, fun h => absurd h (by simp [mD, Sl.free])⟩, EntsIn.nil w, IntsIn.nil w, by simp [mD, Sl.free], by simp [Sl.free], by simp [kidL, Sl.free]⟩
theorem US.zero_blk (g : Nat) : ¬ US.zero.blk g := by
  intro h
  rcases h with h | h | h <;> simp [US.zero, Value.ownBlock] at h

/-- The model m shows the joint state J and the root rt; H: its blocks. -/
structure UAt (w : World) (m : Nat) (J : Nat → Sl) (rt : Nat) (hist : Value) (H : Nat → Prop) : Prop where
  ex : ∃ sl base, UM w m sl rt base hist ∧ ∀ i, In i → UOk w (sl i) (J i) ∧ ∀ g, (sl i).blk g → H g ∧ g ≠ m
  own : H m
  inn : ∀ k, H k → k < w.heap.size

section
variable {w : World} {m : Nat} {J : Nat → Sl} {rt : Nat} {hist : Value} {H : Nat → Prop}
theorem UAt.keep {S : Nat → Prop} {w' : World} (h : UAt w m J rt hist H) (ho : Only S w w') (hS : ∀ k, H k → ¬ S k) : UAt w' m J rt hist H := by
  obtain ⟨⟨sl, base, hm, hi⟩, ho1, hn⟩ := h
  exact ⟨⟨sl, base, hm.keep ho (hS m ho1), fun i hin => by
    obtain ⟨a, e⟩ := hi i hin
    exact ⟨a.keep ho (fun k hk => hS k (e k hk).1), e⟩⟩, ho1, fun k hk => Nat.lt_of_lt_of_le (hn k hk) ho.size⟩
theorem UAt.quiet {w' : World} (h : UAt w m J rt hist H) (ho : Only (fun _ => False) w w') : UAt w' m J rt hist H := h.keep ho (fun _ _ h => h)
theorem UAt.ext {J' : Nat → Sl} (h : UAt w m J rt hist H) (he : ∀ i, In i → J' i = J i) : UAt w m J' rt hist H := by
  obtain ⟨⟨sl, base, hm, hi⟩, ho1, hn⟩ := h
  exact ⟨⟨sl, base, hm, fun i hin => by rw [he i hin]; exact hi i hin⟩, ho1, hn⟩
theorem UAt.mono {G : Nat → Prop} (h : UAt w m J rt hist H) (hG : ∀ k, H k → G k) (hi' : ∀ k, G k → k < w.heap.size) : UAt w m J rt hist G := by
  obtain ⟨⟨sl, base, hm, hi⟩, ho1, hn⟩ := h
  exact ⟨⟨sl, base, hm, fun i hin => by
    obtain ⟨a, e⟩ := hi i hin
    exact ⟨a, fun g hg => ⟨hG g (e g hg).1, (e g hg).2⟩⟩⟩, hG m ho1, hi'⟩
theorem UAt.lt (h : UAt w m J rt hist H) : m < w.heap.size := h.inn m h.own
theorem UAt.rows (h : UAt w m J rt hist H) : (w.cell? ⟨m, 245, none⟩ = some (.int .i64 (rt : Int)) ∧ w.frozen? ⟨m, 245, none⟩ = false) ∧ (∃ b, w.cell? ⟨m, 246, none⟩ = some b ∧ w.frozen? ⟨m, 246, none⟩ = false) ∧ (w.cell? ⟨m, 247, none⟩ = some hist ∧ w.frozen? ⟨m, 247, none⟩ = false) := by
  obtain ⟨⟨sl, base, hm, hi⟩, ho1, hn⟩ := h
  exact ⟨hm.root, ⟨base, hm.base_⟩, hm.hist_⟩
/-- The cells of slot i. -/
structure Cells5 (w : World) (m i : Nat) (s : Sl) (H : Nat → Prop) (dv lv kv : Value) : Prop where
  c0 : w.cell? ⟨m, i * 5, none⟩ = some (.int .i64 (s.st : Int)) ∧ w.frozen? ⟨m, i * 5, none⟩ = false
  c1 : w.cell? ⟨m, i * 5 + 1, none⟩ = some (.int .i64 (s.kd : Int)) ∧ w.frozen? ⟨m, i * 5 + 1, none⟩ = false
  c2 : w.cell? ⟨m, i * 5 + 2, none⟩ = some dv ∧ w.frozen? ⟨m, i * 5 + 2, none⟩ = false
  c3 : w.cell? ⟨m, i * 5 + 3, none⟩ = some lv ∧ w.frozen? ⟨m, i * 5 + 3, none⟩ = false
  c4 : w.cell? ⟨m, i * 5 + 4, none⟩ = some kv ∧ w.frozen? ⟨m, i * 5 + 4, none⟩ = false
  db : BytesAt w dv (mD s).length (dF (mD s))
  lb : EntsIn w lv s.lst
  kb : IntsIn w kv (kidL s)
  d180 : (mD s).length ≤ 180
  l8 : s.lst.length ≤ 8
  k8 : (kidL s).length ≤ 8
  own : ∀ g, (dv.ownBlock = some g ∨ lv.ownBlock = some g ∨ kv.ownBlock = some g) → H g ∧ g ≠ m
theorem UAt.cells (h : UAt w m J rt hist H) {i : Nat} (hin : In i) : ∃ dv lv kv, Cells5 w m i (J i) H dv lv kv := by
  obtain ⟨⟨sl, base, hm, hi⟩, ho1, hn⟩ := h
  obtain ⟨a, b⟩ := hi i hin
  have := hin.2
  have z0 := hm.state i (by omega)
  have z1 := hm.slot i 1 (by omega) (by omega)
  have z2 := hm.slot i 2 (by omega) (by omega)
  have z3 := hm.slot i 3 (by omega) (by omega)
  have z4 := hm.slot i 4 (by omega) (by omega)
  simp only [usCell] at z1 z2 z3 z4
  rw [a.st] at z0
  rw [a.kd] at z1
  exact ⟨_, _, _, z0, z1, z2, z3, z4, a.db, a.lb, a.kb, a.d180, a.l8, a.k8, b⟩
theorem UAt.put (h : UAt w m J rt hist H) {i : Nat} (hin : In i) (e : US) (s : Sl) (hv : UOk w e s) (hvH : ∀ g, e.blk g → H g ∧ g ≠ m) : UAt (put5 w m i e) m (updT J i s) rt hist H := by
  obtain ⟨⟨sl, base, hm, hi⟩, ho1, hn⟩ := h
  have h2 := hin.2
  have hp := hm.putSlot i (by omega) e
  have o1 : Only (fun k => k = m) w (put5 w m i e) := only5 (Only.refl (fun k => k = m) w) (fun _ => rfl) e
  refine ⟨⟨_, base, hp, fun j hj => ?_⟩, ho1, fun k hk => Nat.lt_of_lt_of_le (hn k hk) o1.size⟩
  by_cases e : j = i
  · subst e; rw [updT_same, updT_same]
    exact ⟨hv.keep o1 (fun k hk => (hvH k hk).2), hvH⟩
  · rw [updT_other _ _ _ _ e, updT_other _ _ _ _ e]
    obtain ⟨a, f⟩ := hi j hj
    exact ⟨a.keep o1 (fun k hk => (f k hk).2), f⟩
theorem UAt.clear (h : UAt w m J rt hist H) {i : Nat} (hin : In i) : UAt (put5 w m i US.zero) m (updT J i Sl.free) rt hist H := h.put hin US.zero Sl.free (UOk.free w) (fun g hg => absurd hg (US.zero_blk g))
theorem UAt.setSt (h : UAt w m J rt hist H) {i : Nat} (hin : In i) (x : Nat) : UAt (w.setCell ⟨m, i * 5, none⟩ (.int .i64 (x : Int))) m (updT J i (stS (J i) x)) rt hist H := by
  obtain ⟨⟨sl, base, hm, hi⟩, ho1, hn⟩ := h
  have h2 := hin.2
  have hp := hm.setState i (by omega) x
  have o1 := only1 (w := w) (p := m) (i * 5) (.int .i64 (x : Int))
  refine ⟨⟨_, base, hp, fun j hj => ?_⟩, ho1, fun k hk => Nat.lt_of_lt_of_le (hn k hk) o1.size⟩
  by_cases e : j = i
  · subst e; rw [updT_same, updT_same]
    obtain ⟨a, f⟩ := hi j hj
    have a' := a.keep o1 (fun k hk => (f k hk).2)
    exact ⟨⟨rfl, a'.kd, a'.db, a'.lb, a'.kb, a'.d180, a'.l8, a'.k8⟩, f⟩
  · rw [updT_other _ _ _ _ e, updT_other _ _ _ _ e]
    obtain ⟨a, f⟩ := hi j hj
    exact ⟨a.keep o1 (fun k hk => (f k hk).2), f⟩
theorem UAt.one {off : Nat} {v : Value} {rt' : Nat} {base' hist' : Value} (h : UAt w m J rt hist H) (hh : ∀ sl base, UM w m sl rt base hist → ∃ base', UM (w.setCell ⟨m, off, none⟩ v) m sl rt' base' hist') : UAt (w.setCell ⟨m, off, none⟩ v) m J rt' hist' H := by
  obtain ⟨⟨sl, base, hm, hi⟩, ho1, hn⟩ := h
  obtain ⟨b', hb⟩ := hh sl base hm
  have o1 := only1 (w := w) (p := m) off v
  refine ⟨⟨_, b', hb, fun j hj => ?_⟩, ho1, fun k hk => Nat.lt_of_lt_of_le (hn k hk) o1.size⟩
  obtain ⟨a, f⟩ := hi j hj
  exact ⟨a.keep o1 (fun k hk => (f k hk).2), f⟩
theorem UAt.setRoot (h : UAt w m J rt hist H) (x : Nat) : UAt (w.setCell ⟨m, 245, none⟩ (.int .i64 (x : Int))) m J x hist H := h.one (base' := hist) (fun sl base hm => ⟨_, hm.setRoot x⟩)
theorem UAt.setHist (h : UAt w m J rt hist H) (x : Value) : UAt (w.setCell ⟨m, 247, none⟩ x) m J rt x H := h.one (base' := hist) (fun sl base hm => ⟨_, hm.setHist x⟩)
theorem UAt.setBase (h : UAt w m J rt hist H) (x : Value) : UAt (w.setCell ⟨m, 246, none⟩ x) m J rt hist H := h.one (base' := hist) (fun sl base hm => ⟨_, hm.setBase x⟩)

theorem uroot_any (h : UAt w m J rt hist H) :
    Calls Tryz.prog 51 #[.pointer (some ⟨m, 0, none⟩)] w fun e w' => e = .returned (.int .i64 (rt : Int)) ∧ w = w' := by
  have c := h.rows.1.1
  clear h
  go_enter Tryz.func51, Tryz.ntmps51
  go_wp2
  go_ret
  exact ⟨rfl, rfl⟩
theorem usteps_any {a : Option Addr} {n cap : Nat} (h : UAt w m J rt (.slice a n cap) H) :
    Calls Tryz.prog 18 #[.pointer (some ⟨m, 0, none⟩)] w fun e w' => e = .returned (.int .i64 (n : Int)) ∧ w = w' := by
  have c := h.rows.2.2.1
  clear h
  go_enter Tryz.func18, Tryz.ntmps18
  go_wp2
  go_ret
  exact ⟨rfl, rfl⟩
theorem ulive_any (h : UAt w m J rt hist H) (id : Int) :
    Calls Tryz.prog 88 #[.pointer (some ⟨m, 0, none⟩), .int .i64 id] w fun e w' => e = .returned (.bool (liveJ J id)) ∧ w = w' := by
  by_cases h1 : 1 ≤ id
  · by_cases h2 : id ≤ 48
    · obtain ⟨i, rfl⟩ : ∃ i : Nat, id = i := ⟨id.toNat, by omega⟩
      have hin : In i := ⟨by omega, by omega⟩
      rw [liveJ_nat hin]
      obtain ⟨dv, lv, kv, hc⟩ := h.cells hin
      have c := hc.c0.1
      clear hc h
      have a1 : decide (1 ≤ (i : Int)) = true := by simp; omega
      have a2 : decide ((i : Int) ≤ 48) = true := by simp; omega
      have a3 : (i : Int) < 49 := by omega
      unfold liveS
      generalize (J i).st = st at *
      by_cases e1 : st = 1
      · subst e1
        go_enter Tryz.func88, Tryz.ntmps88
        go_wp2_with fail
        go_ret
        exact ⟨rfl, rfl⟩
      · have b1 : ((st : Int) == 1) = false := ne_intO (by omega)
        by_cases e2 : st = 2
        · subst e2
          go_enter Tryz.func88, Tryz.ntmps88
          go_wp2_with fail
          go_ret
          exact ⟨rfl, rfl⟩
        · have b2 : ((st : Int) == 2) = false := ne_intO (by omega)
          have b3 : (st == 1 || st == 2) = false := by simp [e1, e2]
          rw [b3]
          go_enter Tryz.func88, Tryz.ntmps88
          go_wp2_with fail
          go_ret
          exact ⟨by first | exact rfl | simp, rfl⟩
    · have e : liveJ J id = false := by unfold liveJ; rw [decide_eq_false (by omega)]; rfl
      rw [e]
      have a1 : decide (1 ≤ id) = true := by simpa using h1
      have a2 : decide (id ≤ 48) = false := by simpa using h2
      go_enter Tryz.func88, Tryz.ntmps88
      go_wp2_with fail
      go_ret
      exact ⟨rfl, rfl⟩
  · have e : liveJ J id = false := by unfold liveJ; rw [decide_eq_false (by omega)]; rfl
    rw [e]
    have a1 : decide (1 ≤ id) = false := by simpa using h1
    go_enter Tryz.func88, Tryz.ntmps88
    go_wp2_with fail
    go_ret
    exact ⟨rfl, rfl⟩
end
end Go.Proofs.Qxb6500421aGreat
