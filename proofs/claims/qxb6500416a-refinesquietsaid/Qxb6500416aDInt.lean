/-
  OWN WORK. THE POOL OF LINES: intern.
-/
import Derived.Test.Qxb6500416aDTdP
import Derived.Deep.RegionLaw
namespace Go.Proofs.Qxb6500416a
open Go.RowKit Go.PlainAid
set_option linter.unusedSimpArgs false
set_option linter.unusedVariables false

theorem donly1 {w : World} {p : Nat} (off : Nat) (u : Value) : Only (fun k => k = p) w (w.setCell ⟨p, off, Option.none⟩ u) := (Only.refl (fun k => k = p) w).setCell (p := ⟨p, off, Option.none⟩) (fun _ => rfl) _
theorem Try.dinfoInt : (Try.prog.info? 3).map (fun i => (i.zero, i.size, i.bytes)) = some (some (.int .i64 0), 1, 8) := by kernel_rfl
/-- The engine in the midst of a step. -/
structure EQ (w0 : World) (e : Nat) (F : Nat → Prop) (hd : Nat → Nat) (lv sv nv : Value) (A B C : List Value) (w : World) : Prop where
  eat : EAt w e hd lv sv nv
  l : w.ownsRow 0 9 1 lv A.length A
  s : w.ownsRow 0 3 1 sv B.length B
  n : w.ownsRow 0 3 1 nv C.length C
  fl : ∀ y, lv.ownBlock = some y ∨ sv.ownBlock = some y ∨ nv.ownBlock = some y → F y ∨ w0.heap.size ≤ y
  sn : ∀ y, sv.ownBlock = some y → nv.ownBlock ≠ some y
  fe : F e
  fi : ∀ k, F k → k < w0.heap.size
  ho : Only F w0 w
theorem own_ne {w : World} {e1 e2 s1 s2 n1 n2 : Nat} {v u : Value} {xs ys : List Value} (h : w.ownsRow 0 e1 s1 v n1 xs) (h' : w.ownsRow 0 e2 s2 u n2 ys) (he : e1 ≠ e2) : ∀ y, v.ownBlock = some y → u.ownBlock ≠ some y := by
  intro y hy hu
  rcases h'.2 with ⟨rfl, _⟩ | ⟨g, cap, cur, rfl, _, hg, _⟩
  · simp [Value.ownBlock] at hu
  · simp [Value.ownBlock] at hu
    subst hu
    exact ownsRow_ne h (c := cur) (t := e2) hg he _ hy rfl
theorem own_only {w w1 : World} {v : Value} {o : Obj} (hgrow : (w.alloc o).grownBy w1 v.ownBlock) : Only (fun y => v.ownBlock = some y) w w1 :=
  ((Only.refl (fun y => v.ownBlock = some y) w).alloc _).grown hgrow (fun y hy _ => hy)
section
variable {w0 : World} {e : Nat} {F : Nat → Prop} {hd : Nat → Nat} {lv sv nv : Value} {A B C : List Value} {w w1 : World} {v' x : Value} {o : Obj} {n : Nat}
theorem EQ.midL (h : EQ w0 e F hd lv sv nv A B C w) (hgrow : (w.alloc o).grownBy w1 lv.ownBlock) : EAt w1 e hd lv sv nv :=
  h.eat.keep (own_only hgrow) (fun he => ownsRow_ne h.l h.eat (by decide) _ he rfl)
theorem EQ.pushL (h : EQ w0 e F hd lv sv nv A B C w) (hown : w1.ownsRow 0 9 1 v' n (A ++ [x])) (hn : n = A.length + 1) (hgrow : (w.alloc o).grownBy w1 lv.ownBlock) (hwhere : ∀ k, v'.ownBlock = some k → lv.ownBlock = some k ∨ k = w.heap.size + 1) :
    EQ w0 e F hd v' sv nv (A ++ [x]) B C (w1.setCell ⟨e, 8, none⟩ v') := by
  have oG := own_only hgrow
  have hE := h.midL hgrow
  have oS := donly1 (w := w1) (p := e) 8 v'
  have hs := h.ho.size
  subst hn
  refine ⟨hE.setLine v', ?_, ?_, ?_, ?_, h.sn, h.fe, h.fi, ?_⟩
  · rw [List.length_append]
    exact ownsRow_keep hown oS (fun y hy ey => ownsRow_ne hown hE (by decide) y hy ey)
  · exact ownsRow_keep (ownsRow_keep h.s oG (fun y hy => own_ne h.s h.l (by decide) y hy)) oS (fun y hy ey => ownsRow_ne h.s h.eat (by decide) y hy ey)
  · exact ownsRow_keep (ownsRow_keep h.n oG (fun y hy => own_ne h.n h.l (by decide) y hy)) oS (fun y hy ey => ownsRow_ne h.n h.eat (by decide) y hy ey)
  · intro y hy
    rcases hy with hy | hy
    · rcases hwhere y hy with ey | ey
      · exact h.fl y (.inl ey)
      · exact .inr (by omega)
    · exact h.fl y (.inr hy)
  · refine (h.ho.trans oG (fun i hi ei => ?_)).trans oS (fun i hi ei => ei ▸ h.fe)
    rcases h.fl i (.inl ei) with hf | hf
    · exact hf
    · omega
theorem EQ.midS (h : EQ w0 e F hd lv sv nv A B C w) (hgrow : (w.alloc o).grownBy w1 sv.ownBlock) : EAt w1 e hd lv sv nv :=
  h.eat.keep (own_only hgrow) (fun he => ownsRow_ne h.s h.eat (by decide) _ he rfl)
theorem EQ.pushS (h : EQ w0 e F hd lv sv nv A B C w) (hown : w1.ownsRow 0 3 1 v' n (B ++ [x])) (hn : n = B.length + 1) (hgrow : (w.alloc o).grownBy w1 sv.ownBlock) (hwhere : ∀ k, v'.ownBlock = some k → sv.ownBlock = some k ∨ k = w.heap.size + 1) :
    EQ w0 e F hd lv v' nv A (B ++ [x]) C (w1.setCell ⟨e, 9, none⟩ v') := by
  have oG := own_only hgrow
  have hE := h.midS hgrow
  have oS := donly1 (w := w1) (p := e) 9 v'
  have hs := h.ho.size
  subst hn
  refine ⟨hE.setSum v', ?_, ?_, ?_, ?_, ?_, h.fe, h.fi, ?_⟩
  · exact ownsRow_keep (ownsRow_keep h.l oG (fun y hy => own_ne h.l h.s (by decide) y hy)) oS (fun y hy ey => ownsRow_ne h.l h.eat (by decide) y hy ey)
  · rw [List.length_append]
    exact ownsRow_keep hown oS (fun y hy ey => ownsRow_ne hown hE (by decide) y hy ey)
  · exact ownsRow_keep (ownsRow_keep h.n oG (fun y hy hy' => h.sn y hy' hy)) oS (fun y hy ey => ownsRow_ne h.n h.eat (by decide) y hy ey)
  · intro y hy
    rcases hy with hy | hy | hy
    · exact h.fl y (.inl hy)
    · rcases hwhere y hy with ey | ey
      · exact h.fl y (.inr (.inl ey))
      · exact .inr (by omega)
    · exact h.fl y (.inr (.inr hy))
  · intro y hy hy'
    have := ownsRow_lt h.n y hy'
    rcases hwhere y hy with ey | ey
    · exact h.sn y ey hy'
    · omega
  · refine (h.ho.trans oG (fun i hi ei => ?_)).trans oS (fun i hi ei => ei ▸ h.fe)
    rcases h.fl i (.inr (.inl ei)) with hf | hf
    · exact hf
    · omega
theorem EQ.pushN (h : EQ w0 e F hd lv sv nv A B C w) (oG : Only (fun y => nv.ownBlock = some y) w w1) (hown : w1.ownsRow 0 3 1 v' n (C ++ [x])) (hn : n = C.length + 1) (hwhere : ∀ k, v'.ownBlock = some k → nv.ownBlock = some k ∨ k = w.heap.size + 1) :
    EQ w0 e F hd lv sv v' A B (C ++ [x]) (w1.setCell ⟨e, 10, none⟩ v') := by
  have hE : EAt w1 e hd lv sv nv := h.eat.keep oG (fun he => ownsRow_ne h.n h.eat (by decide) _ he rfl)
  have oS := donly1 (w := w1) (p := e) 10 v'
  have hs := h.ho.size
  subst hn
  refine ⟨hE.setNext v', ?_, ?_, ?_, ?_, ?_, h.fe, h.fi, ?_⟩
  · exact ownsRow_keep (ownsRow_keep h.l oG (fun y hy => own_ne h.l h.n (by decide) y hy)) oS (fun y hy ey => ownsRow_ne h.l h.eat (by decide) y hy ey)
  · exact ownsRow_keep (ownsRow_keep h.s oG (fun y hy => h.sn y hy)) oS (fun y hy ey => ownsRow_ne h.s h.eat (by decide) y hy ey)
  · rw [List.length_append]
    exact ownsRow_keep hown oS (fun y hy ey => ownsRow_ne hown hE (by decide) y hy ey)
  · intro y hy
    rcases hy with hy | hy | hy
    · exact h.fl y (.inl hy)
    · exact h.fl y (.inr (.inl hy))
    · rcases hwhere y hy with ey | ey
      · exact h.fl y (.inr (.inr ey))
      · exact .inr (by omega)
  · intro y hy hy'
    have := ownsRow_lt h.s y hy
    rcases hwhere y hy' with ey | ey
    · exact h.sn y hy ey
    · omega
  · refine (h.ho.trans oG (fun i hi ei => ?_)).trans oS (fun i hi ei => ei ▸ h.fe)
    rcases h.fl i (.inr (.inr ei)) with hf | hf
    · exact hf
    · omega
theorem EQ.drewO (h : EQ w0 e F hd lv sv nv A B C w) (k : Nat) : EQ w0 e F hd lv sv nv A B C (w.drewN k) := by
  have oD := (Only.refl (fun _ => False) w).drewO k
  exact ⟨h.eat.keep oD (fun h => h), ownsRow_keep h.l oD (fun _ _ h => h), ownsRow_keep h.s oD (fun _ _ h => h), ownsRow_keep h.n oD (fun _ _ h => h), h.fl, h.sn, h.fe, h.fi, h.ho.drewO k⟩
theorem EQ.setHead (h : EQ w0 e F hd lv sv nv A B C w) (b k : Nat) (hb : b < 8) : EQ w0 e F (updT hd b k) lv sv nv A B C (w.setCell ⟨e, b, none⟩ (.int .i64 (k : Int))) := by
  have oS := donly1 (w := w) (p := e) b (.int .i64 (k : Int))
  exact ⟨h.eat.setHead b hb k, ownsRow_keep h.l oS (fun y hy ey => ownsRow_ne h.l h.eat (by decide) y hy ey), ownsRow_keep h.s oS (fun y hy ey => ownsRow_ne h.s h.eat (by decide) y hy ey), ownsRow_keep h.n oS (fun y hy ey => ownsRow_ne h.n h.eat (by decide) y hy ey), h.fl, h.sn, h.fe, h.fi, h.ho.trans oS (fun i hi ei => ei ▸ h.fe)⟩
end
def lineV (L : List Str) : List Value := (L.map sb).map Value.string
def sumV (L : List Str) : List Value := L.map (fun l => Value.int .i64 (hashD l : Int))
def nextV (L : List Str) : List Value := (List.range L.length).map (fun k => Value.int .i64 (lastB L (buck (L.getD k [])) k : Int))
theorem lineV_len (L : List Str) : (lineV L).length = L.length := by simp [lineV]
theorem sumV_len (L : List Str) : (sumV L).length = L.length := by simp [sumV]
theorem nextV_len (L : List Str) : (nextV L).length = L.length := by simp [nextV]
theorem EP.open {w : World} {e : Nat} {L : List Str} {F : Nat → Prop} (h : EP w e L F) : ∃ hd lv sv nv, EQ w e F hd lv sv nv (lineV L) (sumV L) (nextV L) w ∧ (∀ b, b < 8 → hd b = lastB L b L.length) := by
  obtain ⟨⟨hd, lv, sv, nv, h1, h2, h3, h4, h5, h6, h7⟩, h8, h9, h10⟩ := h
  refine ⟨hd, lv, sv, nv, ⟨h1, ?_, ?_, ?_, fun y hy => .inl (h6 y hy).1, h7, h8, h9, Only.refl _ _⟩, h5⟩
  · have : w.ownsRow 0 9 1 lv (L.map sb).length ((L.map sb).map Value.string) := h2
    rw [lineV_len]
    rw [List.length_map] at this
    exact this
  · rw [sumV_len]; exact h3
  · rw [nextV_len]; exact h4
theorem EQ.close {w0 w : World} {e : Nat} {F : Nat → Prop} {hd : Nat → Nat} {lv sv nv : Value} {L : List Str} (h : EQ w0 e F hd lv sv nv (lineV L) (sumV L) (nextV L) w) (hh : ∀ b, b < 8 → hd b = lastB L b L.length) (nd : L.Nodup) : EP w e L (Ext F w0 w) := by
  have e1 := ownsRow_lt h.l
  have e2 := ownsRow_lt h.s
  have e3 := ownsRow_lt h.n
  refine ⟨⟨hd, lv, sv, nv, h.eat, ?_, ?_, ?_, hh, ?_, h.sn⟩, .inl h.fe, Ext.in h.fi h.ho.size, nd⟩
  · have := h.l
    rw [lineV_len] at this
    show w.ownsRow 0 9 1 lv (L.map sb).length ((L.map sb).map Value.string)
    rw [List.length_map]
    exact this
  · have := h.s; rw [sumV_len] at this; exact this
  · have := h.n; rw [nextV_len] at this; exact this
  · intro y hy
    refine ⟨?_, ?_⟩
    · rcases h.fl y hy with hf | hf
      · exact .inl hf
      · refine .inr ⟨hf, ?_⟩
        rcases hy with hy | hy | hy
        · exact e1 y hy
        · exact e2 y hy
        · exact e3 y hy
    · rcases hy with hy | hy | hy
      · exact ownsRow_ne h.l h.eat (by decide) y hy
      · exact ownsRow_ne h.s h.eat (by decide) y hy
      · exact ownsRow_ne h.n h.eat (by decide) y hy
/-- What a place of the three rows holds. -/
theorem EQ.cells {w0 w : World} {e : Nat} {F : Nat → Prop} {hd : Nat → Nat} {lv sv nv : Value} {L : List Str} (h : EQ w0 e F hd lv sv nv (lineV L) (sumV L) (nextV L) w) (k : Nat) (hk : k < L.length) :
    ∃ gl cl gs cs gn cn, lv = .slice (some ⟨gl, 0, none⟩) L.length cl ∧ sv = .slice (some ⟨gs, 0, none⟩) L.length cs ∧ nv = .slice (some ⟨gn, 0, none⟩) L.length cn ∧
      w.cell? ⟨gl, k, none⟩ = some (.string (sb L[k])) ∧ w.cell? ⟨gs, k, none⟩ = some (.int .i64 (hashD L[k] : Int)) ∧ w.cell? ⟨gn, k, none⟩ = some (.int .i64 (lastB L (buck L[k]) k : Int)) ∧ gl < w.heap.size ∧ gs < w.heap.size ∧ gn < w.heap.size := by
  have key : ∀ (t : Nat) (v : Value) (X : List Value), w.ownsRow 0 t 1 v X.length X → X.length = L.length → ∃ g c, v = .slice (some ⟨g, 0, none⟩) L.length c ∧ (∀ u, X[k]? = some u → w.cell? ⟨g, k, none⟩ = some u) ∧ g < w.heap.size := by
    intro t v X hX hl
    rcases hX.2 with ⟨_, h0⟩ | ⟨g, cap, cur, rfl, _, hg, _⟩
    · omega
    · refine ⟨g, cap, by rw [hl], fun u hu => ?_, lt_of_block hg⟩
      have := World.ownsRow.cells hX (g := g) rfl k u hu
      rw [addr_add] at this
      exact this
  obtain ⟨gl, cl, e1, f1, l1⟩ := key _ _ _ h.l (lineV_len L)
  obtain ⟨gs, cs, e2, f2, l2⟩ := key _ _ _ h.s (sumV_len L)
  obtain ⟨gn, cn, e3, f3, l3⟩ := key _ _ _ h.n (nextV_len L)
  refine ⟨gl, cl, gs, cs, gn, cn, e1, e2, e3, f1 _ (by simp [lineV, hk]), f2 _ (by simp [sumV, hk]), f3 _ ?_, l1, l2, l3⟩
  simp [nextV, hk]
end Go.Proofs.Qxb6500416a
