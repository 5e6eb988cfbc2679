/-
  OWN WORK. TXN: the manager in memory: its lock table and the sessions' write sets.
-/
import Derived.Test.Qxb6500412aGreatEUn
namespace Go.Proofs.Qxb6500412aGreat
open Go.RowKit Go.PlainAid
set_option linter.unusedSimpArgs false
set_option linter.unusedVariables false

/-- One word of a write set. -/
structure Wd where
  tab : ByteArray
  key : Vl
  gone : Bool
  row : List Vl
/-- A word with its row's slice. -/
structure WCh where
  d : Wd
  u : Value
def wcs : List WCh → List Value
  | [] => []
  | c :: r => [.string c.d.tab, .bool c.d.key.str, .int .i64 c.d.key.i, .string c.d.key.s, .bool c.d.gone, c.u] ++ wcs r
theorem wcs_len (l : List WCh) : (wcs l).length = l.length * 6 := by
  induction l with
  | nil => rfl
  | cons a r ih => simp [wcs, ih]; omega
theorem wcs_app (l r : List WCh) : wcs (l ++ r) = wcs l ++ wcs r := by
  induction l with
  | nil => rfl
  | cons a t ih => simp [wcs, ih]
theorem wcs_at : ∀ (l : List WCh) (i : Nat) {e : WCh}, l[i]? = some e → (wcs l)[i * 6]? = some (.string e.d.tab) ∧ (wcs l)[i * 6 + 1]? = some (.bool e.d.key.str) ∧ (wcs l)[i * 6 + 2]? = some (.int .i64 e.d.key.i) ∧ (wcs l)[i * 6 + 3]? = some (.string e.d.key.s) ∧ (wcs l)[i * 6 + 4]? = some (.bool e.d.gone) ∧ (wcs l)[i * 6 + 5]? = some e.u
  | [], i, e, h => by simp at h
  | f :: r, 0, e, h => by
    obtain rfl : f = e := by simpa using h
    exact ⟨rfl, rfl, rfl, rfl, rfl, rfl⟩
  | f :: r, i + 1, e, h => by
    have := wcs_at r i (e := e) (by simpa using h)
    have e : (i + 1) * 6 = i * 6 + 6 := by omega
    rw [e]
    exact this
theorem wcs_set : ∀ (l : List WCh) (i : Nat) (e : WCh), wcs (l.set i e) = ((((((wcs l).set (i * 6) (.string e.d.tab)).set (i * 6 + 1) (.bool e.d.key.str)).set (i * 6 + 2) (.int .i64 e.d.key.i)).set (i * 6 + 3) (.string e.d.key.s)).set (i * 6 + 4) (.bool e.d.gone)).set (i * 6 + 5) e.u
  | [], i, e => by simp [wcs]
  | f :: r, 0, e => rfl
  | f :: r, i + 1, e => by
    have ih := wcs_set r i e
    have e : (i + 1) * 6 = i * 6 + 6 := by omega
    rw [e, List.set_cons_succ]
    simp only [wcs, ih, List.cons_append, List.nil_append, List.set_cons_succ, show i * 6 + 6 + 1 = (i * 6 + 1) + 6 by omega, show i * 6 + 6 + 2 = (i * 6 + 2) + 6 by omega, show i * 6 + 6 + 3 = (i * 6 + 3) + 6 by omega, show i * 6 + 6 + 4 = (i * 6 + 4) + 6 by omega, show i * 6 + 6 + 5 = (i * 6 + 5) + 6 by omega]
/-- A write set in memory. -/
structure WL (w : World) (v : Value) (l : List WCh) : Prop where
  own : w.ownsRow 0 285 6 v l.length (wcs l)
  row : ∀ c ∈ l, OwnV w c.u c.d.row
def WLi (l : List WCh) (k : Nat) : Prop := ∃ c ∈ l, c.u.ownBlock = some k
section
variable {w w' : World} {v : Value} {l : List WCh}
theorem WL.keep {B : Nat → Prop} (h : WL w v l) (ho : Only B w w') (hm : ∀ k, v.ownBlock = some k → ¬ B k) (hi : ∀ k, WLi l k → ¬ B k) : WL w' v l :=
  ⟨ownsRow_keep h.own ho hm, fun c hc => (h.row c hc).keep ho (fun k hk => hi k ⟨c, hc, hk⟩)⟩
theorem WL.quiet (h : WL w v l) (ho : Only (fun _ => False) w w') : WL w' v l := h.keep ho (fun _ _ e => e) (fun _ _ e => e)
theorem WL.lt (h : WL w v l) : ∀ k, v.ownBlock = some k ∨ WLi l k → k < w.heap.size := by
  rintro k (hk | ⟨c, hc, hk⟩)
  · exact ownsRow_lt h.own k hk
  · exact (h.row c hc).lt k hk
theorem WL.nil (w : World) : WL w (.slice none 0 0) [] := ⟨World.ownsRow_nil _ _ _ _, fun _ h => by simp at h⟩
theorem WL.shape (h : WL w v l) : ∃ a cap, v = .slice a l.length cap := ownsRow_shape h.own
theorem WL.at_ {a : Option Addr} {n cap : Nat} (h : WL w (.slice a n cap) l) {i : Nat} {x : WCh} (hx : l[i]? = some x) : ∃ g, a = some ⟨g, 0, none⟩ ∧ w.cell? ⟨g, i * 6, none⟩ = some (.string x.d.tab) ∧ w.cell? ⟨g, i * 6 + 1, none⟩ = some (.bool x.d.key.str) ∧ w.cell? ⟨g, i * 6 + 2, none⟩ = some (.int .i64 x.d.key.i) ∧ w.cell? ⟨g, i * 6 + 3, none⟩ = some (.string x.d.key.s) ∧ w.cell? ⟨g, i * 6 + 4, none⟩ = some (.bool x.d.gone) ∧ w.cell? ⟨g, i * 6 + 5, none⟩ = some x.u := by
  have hi := (List.getElem?_eq_some_iff.mp hx).1
  rcases h.own.2 with ⟨he, h0⟩ | ⟨g, cap', cur, he, _⟩
  · omega
  · obtain ⟨rfl, _⟩ : a = some ⟨g, 0, none⟩ ∧ True := by
      have := he
      simp at this
      exact ⟨this.1, trivial⟩
    refine ⟨g, rfl, ?_⟩
    have hc := World.ownsRow.cells h.own (g := g) (by first | exact rfl | simp [Value.ownBlock])
    obtain ⟨a1, a2, a3, a4, a5, a6⟩ := wcs_at l i hx
    have b1 := hc _ _ a1
    have b2 := hc _ _ a2
    have b3 := hc _ _ a3
    have b4 := hc _ _ a4
    have b5 := hc _ _ a5
    have b6 := hc _ _ a6
    rw [addr_add] at b1 b2 b3 b4 b5 b6
    exact ⟨b1, b2, b3, b4, b5, b6⟩
end
/-- The manager: who is in a transaction; the lock table; the write sets (slices, lists). -/
structure Xs where
  act : Nat → Bool
  us : Nat → Bool
  nm : Nat → ByteArray
  md : Nat → Nat → Int
  wv : Nat → Value
  ws : Nat → List WCh
def slC (X : Xs) (i f : Nat) : Value := if f = 0 then .bool (X.us i) else if f = 1 then .string (X.nm i) else .int .i64 (X.md i (f - 2))
def xcell (t : Nat) (X : Xs) (off : Nat) : Value :=
  if off = 0 then .pointer (some ⟨t, 0, none⟩) else if off < 5 then .bool (X.act (off - 1)) else if off < 23 then slC X ((off - 5) / 6) ((off - 5) % 6) else X.wv (off - 23)
def XH (w : World) (g t : Nat) (X : Xs) : Prop := Has w g (tabV 27 (xcell t X)) 134
section
variable {w w' : World} {g t : Nat} {X : Xs}
theorem XH.keep {B : Nat → Prop} (h : XH w g t X) (ho : Only B w w') (hB : ¬ B g) : XH w' g t X := Has.keep h ho hB
theorem XH.quiet (h : XH w g t X) (ho : Only (fun _ => False) w w') : XH w' g t X := h.keep ho (fun h => h)
theorem XH.lt (h : XH w g t X) : g < w.heap.size := Has.lt h
theorem XH.at_ (h : XH w g t X) (off : Nat) (ho : off < 27) : w.cell? ⟨g, off, none⟩ = some (xcell t X off) := by
  rw [Has.cell h, tabV_get _ _ _ ho]
theorem XH.fr (h : XH w g t X) (off : Nat) : w.frozen? ⟨g, off, none⟩ = false := Has.free h off
theorem XH.c0 (h : XH w g t X) : w.cell? ⟨g, 0, none⟩ = some (.pointer (some ⟨t, 0, none⟩)) := h.at_ 0 (by omega)
theorem XH.act (h : XH w g t X) {s : Nat} (hs : s < 4) : w.cell? ⟨g, 1 + s, none⟩ = some (.bool (X.act s)) := by
  rw [h.at_ _ (by omega)]
  unfold xcell
  rw [if_neg (by omega), if_pos (by omega), show 1 + s - 1 = s by omega]
theorem XH.slot (h : XH w g t X) {i f : Nat} (hi : i < 3) (hf : f < 6) : w.cell? ⟨g, 5 + i * 6 + f, none⟩ = some (slC X i f) := by
  rw [h.at_ _ (by omega)]
  unfold xcell
  rw [if_neg (by omega), if_neg (by omega), if_pos (by omega), show (5 + i * 6 + f - 5) / 6 = i by omega, show (5 + i * 6 + f - 5) % 6 = f by omega]
theorem XH.used (h : XH w g t X) {i : Nat} (hi : i < 3) : w.cell? ⟨g, 5 + i * 6, none⟩ = some (.bool (X.us i)) := h.slot hi (f := 0) (by omega)
theorem XH.name (h : XH w g t X) {i : Nat} (hi : i < 3) : w.cell? ⟨g, 5 + i * 6 + 1, none⟩ = some (.string (X.nm i)) := h.slot hi (f := 1) (by omega)
theorem XH.mode (h : XH w g t X) {i s : Nat} (hi : i < 3) (hs : s < 4) : w.cell? ⟨g, 5 + i * 6 + 2 + s, none⟩ = some (.int .i64 (X.md i s)) := by
  have := h.slot hi (f := 2 + s) (by omega)
  rw [show 5 + i * 6 + (2 + s) = 5 + i * 6 + 2 + s by omega] at this
  rw [this]
  unfold slC
  rw [if_neg (by omega), if_neg (by omega), show 2 + s - 2 = s by omega]
theorem XH.wset (h : XH w g t X) {s : Nat} (hs : s < 4) : w.cell? ⟨g, 23 + s, none⟩ = some (X.wv s) := by
  rw [h.at_ _ (by omega)]
  unfold xcell
  rw [if_neg (by omega), if_neg (by omega), if_neg (by omega), show 23 + s - 23 = s by omega]
end
/-- The blocks that are turned in place; those that never are. -/
def Xs.M (X : Xs) (k : Nat) : Prop := ∃ s, s < 4 ∧ (X.wv s).ownBlock = some k
def Xs.I (X : Xs) (k : Nat) : Prop := ∃ s, s < 4 ∧ WLi (X.ws s) k
structure XM (w : World) (g t : Nat) (X : Xs) : Prop where
  has : XH w g t X
  ws : ∀ s, s < 4 → WL w (X.wv s) (X.ws s)
  sep : ∀ s r, s < 4 → r < 4 → s ≠ r → ∀ k, (X.wv s).ownBlock = some k → (X.wv r).ownBlock = some k → False
section
variable {w w' : World} {g t : Nat} {X : Xs}
theorem XM.keep {B : Nat → Prop} (h : XM w g t X) (ho : Only B w w') (hg : ¬ B g) (hm : ∀ k, X.M k → ¬ B k) (hi : ∀ k, X.I k → ¬ B k) : XM w' g t X :=
  ⟨h.has.keep ho hg, fun s hs => (h.ws s hs).keep ho (fun k hk => hm k ⟨s, hs, hk⟩) (fun k hk => hi k ⟨s, hs, hk⟩), h.sep⟩
theorem XM.quiet (h : XM w g t X) (ho : Only (fun _ => False) w w') : XM w' g t X := h.keep ho (fun h => h) (fun _ _ e => e) (fun _ _ e => e)
theorem XM.lt (h : XM w g t X) : ∀ k, k = g ∨ X.M k ∨ X.I k → k < w.heap.size := by
  rintro k (rfl | ⟨s, hs, hk⟩ | ⟨s, hs, hk⟩)
  · exact h.has.lt
  · exact (h.ws s hs).lt k (.inl hk)
  · exact (h.ws s hs).lt k (.inr hk)
end
/-- The manager over the store. -/
structure XR (q : Gnd) (w : World) (g x : Nat) (X : Xs) (op : Bool) (S : Vu) : Prop where
  st : ST q w x op S
  xm : XM w g x X
  off : ∀ k, k = g ∨ X.M k ∨ X.I k → ¬ q.A k ∧ k ≠ x
section
variable {q : Gnd} {w w' : World} {g x : Nat} {X : Xs} {op op' : Bool} {S S' : Vu}
theorem XR.quiet (h : XR q w g x X op S) (ho : Only (fun _ => False) w w') : XR q w' g x X op S := ⟨h.st.quiet ho, h.xm.quiet ho, h.off⟩
/-- The store below has been asked. -/
theorem XR.turn (h : XR q w g x X op S) (H : ST q w' x op' S') (ho : Only q.S w w') : XR q w' g x X op' S' :=
  ⟨H, h.xm.keep ho (fun c => (h.off g (.inl rfl)).1 (Gnd.S_A c)) (fun k hk c => (h.off k (.inr (.inl hk))).1 (Gnd.S_A c)) (fun k hk c => (h.off k (.inr (.inr hk))).1 (Gnd.S_A c)), h.off⟩
end
end Go.Proofs.Qxb6500412aGreat
