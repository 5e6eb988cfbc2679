/-
  OWN WORK. THE B-TREE LAW's GHOST: NewGhost, Has, At.
-/
import Derived.Test.Qxb6500410aGreatBTxn
import Derived.Laws.AppendOwn
namespace Go.Proofs.Qxb6500410aGreat
open Go.RowKit Go.PlainAid
set_option linter.unusedSimpArgs false
set_option linter.unusedVariables false

structure Itm where
  h : Nat
  K : ByteArray
  V : ByteArray
def itCells : List Itm → List Value
  | [] => []
  | c :: r => [.int .i64 (c.h : Int), .string c.K, .string c.V] ++ itCells r
theorem itCells_snoc (l : List Itm) (c : Itm) : itCells (l ++ [c]) = itCells l ++ [.int .i64 (c.h : Int), .string c.K, .string c.V] := by
  induction l with
  | nil => rfl
  | cons a r ih => simp [itCells, ih]
theorem itCells_at : ∀ (l : List Itm) (i : Nat) (h : i < l.length), (itCells l)[i * 3]? = some (.int .i64 (l[i].h : Int)) ∧ (itCells l)[i * 3 + 1]? = some (.string l[i].K) ∧ (itCells l)[i * 3 + 2]? = some (.string l[i].V)
  | [], i, h => by simp at h
  | f :: r, 0, h => ⟨rfl, rfl, rfl⟩
  | f :: r, i + 1, h => by
    have := itCells_at r i (by simpa using h)
    have e : (i + 1) * 3 = i * 3 + 3 := by omega
    rw [e]
    exact this
def OwnI (w : World) (v : Value) (l : List Itm) : Prop := w.ownsRow 0 72 3 v l.length (itCells l)
theorem OwnI.keep {S : Nat → Prop} {w w' : World} {v : Value} {l : List Itm} (h : OwnI w v l) (ho : Only S w w') (hS : ∀ k, v.ownBlock = some k → ¬ S k) : OwnI w' v l := ownsRow_keep h ho hS
theorem OwnI.nil (w : World) : OwnI w (.slice none 0 0) [] := World.ownsRow_nil _ _ _ _
/-- What lies at a place. -/
theorem OwnI.shape {w : World} {v : Value} {l : List Itm} (h : OwnI w v l) : ∃ a cap, v = .slice a l.length cap := ownsRow_shape h
theorem OwnI.at_ {w : World} {a : Option Addr} {n cap : Nat} {l : List Itm} (h : OwnI w (.slice a n cap) l) {i : Nat} {x : Itm} (hx : l[i]? = some x) : ∃ g, a = some ⟨g, 0, none⟩ ∧ w.cell? ⟨g, i * 3, none⟩ = some (.int .i64 (x.h : Int)) ∧ w.cell? ⟨g, i * 3 + 1, none⟩ = some (.string x.K) ∧ w.cell? ⟨g, i * 3 + 2, none⟩ = some (.string x.V) := by
  obtain ⟨hi, rfl⟩ := List.getElem?_eq_some_iff.mp hx
  rcases h.2 with ⟨he, h0⟩ | ⟨g, cap', cur, he, _⟩
  · omega
  · obtain ⟨rfl, _⟩ : a = some ⟨g, 0, none⟩ ∧ True := by
      have := he
      simp at this
      exact ⟨this.1, trivial⟩
    refine ⟨g, rfl, ?_⟩
    have hc := World.ownsRow.cells h (g := g) (by first | exact rfl | simp [Value.ownBlock])
    obtain ⟨a1, a2, a3⟩ := itCells_at l i hi
    have b1 := hc _ _ a1
    have b2 := hc _ _ a2
    have b3 := hc _ _ a3
    rw [addr_add] at b1 b2 b3
    exact ⟨b1, b2, b3⟩
/-- A ghost. -/
structure GhAt (w : World) (g tb : Nat) (iv : Value) (T : Nat → Bool) (its : List Itm) : Prop where
  has : Has w g #[.slice (some ⟨tb, 0, none⟩) 8 8, iv] 65
  tr : Has w tb (tabV 8 (fun i => .bool (T i))) 4
  own : OwnI w iv its
  len : its.length ≤ 64
def GhF (g tb : Nat) (iv : Value) (k : Nat) : Prop := k = g ∨ k = tb ∨ iv.ownBlock = some k
section
variable {w : World} {g tb : Nat} {iv : Value} {T : Nat → Bool} {its : List Itm}
theorem GhAt.keep {S : Nat → Prop} {w' : World} (h : GhAt w g tb iv T its) (ho : Only S w w') (hS : ∀ k, GhF g tb iv k → ¬ S k) : GhAt w' g tb iv T its :=
  ⟨h.has.keep ho (hS g (.inl rfl)), h.tr.keep ho (hS tb (.inr (.inl rfl))), h.own.keep ho (fun k hk => hS k (.inr (.inr hk))), h.len⟩
theorem GhAt.quiet {w' : World} (h : GhAt w g tb iv T its) (ho : Only (fun _ => False) w w') : GhAt w' g tb iv T its := h.keep ho (fun _ _ h => h)
theorem GhAt.lt (h : GhAt w g tb iv T its) : ∀ k, GhF g tb iv k → k < w.heap.size := fun k hk => by
  rcases hk with rfl | rfl | hk
  · exact h.has.lt
  · exact h.tr.lt
  · exact ownsRow_lt h.own k hk
theorem GhAt.c0 (h : GhAt w g tb iv T its) : w.cell? ⟨g, 0, none⟩ = some (.slice (some ⟨tb, 0, none⟩) 8 8) := by rw [h.has.cell]; rfl
theorem GhAt.c1 (h : GhAt w g tb iv T its) : w.cell? ⟨g, 1, none⟩ = some iv := by rw [h.has.cell]; rfl
theorem GhAt.t (h : GhAt w g tb iv T its) (i : Nat) (hi : i < 8) : w.cell? ⟨tb, i, none⟩ = some (.bool (T i)) := by rw [h.tr.cell, tabV_get _ _ _ hi]
/-- h is a tree. -/
def hasT (T : Nat → Bool) (h : Int) : Bool := if 0 ≤ h ∧ h < 8 then T h.toNat else false
theorem ghas_any (G : GhAt w g tb iv T its) (h : Int) : Calls Tryz.prog 38 #[.pointer (some ⟨g, 0, none⟩), .int .i64 h] w fun e w' => e = .returned (.bool (hasT T h)) ∧ w = w' := by
  by_cases hh : 0 ≤ h ∧ h < 8
  · have a1 : decide (h < 0) = false := decide_eq_false (by omega)
    have a2 : decide (h ≥ 8) = false := decide_eq_false (by omega)
    have a2' : decide (8 ≤ h) = false := decide_eq_false (by omega)
    have q0 : 0 ≤ h := hh.1
    have q1 : h < 8 := hh.2
    have c0 := G.c0
    have c1 := G.t h.toNat (by omega)
    have hr : hasT T h = T h.toNat := if_pos hh
    rw [hr]
    clear hr hh
    go_enter Tryz.func38, Tryz.ntmps38
    go_wp2_with fail
    go_ret
    exact ⟨rfl, rfl⟩
  · have hr : hasT T h = false := if_neg hh
    rw [hr]
    by_cases h0 : h < 0
    · have a1 : decide (h < 0) = true := decide_eq_true h0
      clear hr hh
      go_enter Tryz.func38, Tryz.ntmps38
      go_wp2_with fail
      go_ret
      exact ⟨rfl, rfl⟩
    · have a1 : decide (h < 0) = false := decide_eq_false h0
      have a2 : decide (h ≥ 8) = true := decide_eq_true (by omega)
      have a2' : decide (8 ≤ h) = true := decide_eq_true (by omega)
      clear hr hh
      go_enter Tryz.func38, Tryz.ntmps38
      go_wp2_with fail
      go_ret
      exact ⟨rfl, rfl⟩
/-- The place of (h, k), or -1. -/
def AtR (its : List Itm) (h : Int) (k : ByteArray) (r : Int) : Prop := (r = -1 ∧ ∀ x ∈ its, ¬ ((x.h : Int) = h ∧ x.K = k)) ∨ ∃ (i : Nat) (x : Itm), its[i]? = some x ∧ r = i ∧ (x.h : Int) = h ∧ x.K = k
set_option maxRecDepth 100000 in
theorem gat_any (G : GhAt w g tb iv T its) (h : Int) (k : ByteArray) : Calls Tryz.prog 97 #[.pointer (some ⟨g, 0, none⟩), .int .i64 h, .string k] w fun e w' => ∃ r, e = .returned (.int .i64 r) ∧ AtR its h k r ∧ w = w' := by
  obtain ⟨a, cap, rfl⟩ := G.own.shape
  have c1 := G.c1
  have hl := G.len
  have HG := hide G
  clear G
  go_enter Tryz.func97, Tryz.ntmps97
  go_upto_region 2 with fail
  go_loop [7] (fun jv => ∃ i : Nat, jv = .int .i64 i ∧ i ≤ its.length ∧ ∀ (j : Nat) (x : Itm), its[j]? = some x → j < i → ¬ ((x.h : Int) = h ∧ x.K = k)) (fun jv => 65 - (intOf jv).toNat)
  case atStart => exact ⟨0, rfl, Nat.zero_le _, fun j _ _ hj => by omega⟩
  case round =>
    obtain ⟨i, rfl, hi, hne⟩ := hrel
    have HN := hide hne
    clear hne
    by_cases hs : i < its.length
    · have a1 : decide ((i : Int) < (its.length : Int)) = true := decide_eq_true (by omega)
      have a1p : (i : Int) < (its.length : Int) := by omega
      obtain ⟨x, hx⟩ := get_ex hs
      obtain ⟨ib, ha, d0, d1, d2⟩ := (unhide HG).own.at_ hx
      subst ha
      have HS := hide hs
      have NX : Hid (¬ ((x.h : Int) = h ∧ x.K = k) → ∀ (j : Nat) (y : Itm), its[j]? = some y → j < i + 1 → ¬ ((y.h : Int) = h ∧ y.K = k)) := hide (fun hno j y hy hji => by
        by_cases e : j = i
        · subst e
          rw [hx] at hy
          cases hy
          exact hno
        · exact unhide HN j y hy (by omega))
      have HX := hide hx
      clear hx
      by_cases h1 : (x.h : Int) = h
      · have b1 : ((x.h : Int) == h) = true := by simpa using h1
        by_cases h2 : x.K = k
        · have b2 := seq_t h2
          have RR := hide (show AtR its h k i from .inr ⟨i, x, unhide HX, rfl, h1, h2⟩)
          clear h2
          go_wp2_with fail
          go_ret
          exact ⟨_, rfl, unhide RR, rfl⟩
        · have b2 := seq_f h2
          have HN2 := hide (unhide NX (fun c => h2 c.2))
          clear h2
          go_wp2_with fail
          go_round
          case rel => exact ⟨i + 1, by go_num, by have := unhide HS; omega, unhide HN2⟩
          case measure => simp [intOf]; omega
      · have b1 : ((x.h : Int) == h) = false := by simpa using h1
        have HN2 := hide (unhide NX (fun c => h1 c.1))
        go_wp2_with fail
        go_round
        case rel => exact ⟨i + 1, by go_num, by have := unhide HS; omega, unhide HN2⟩
        case measure => simp [intOf]; omega
    · have a1 : decide ((i : Int) < (its.length : Int)) = false := decide_eq_false (by omega)
      have a1p : ¬ ((i : Int) < (its.length : Int)) := by omega
      have RR := hide (show AtR its h k (-1) from .inl ⟨rfl, fun x hx => by
        obtain ⟨j, hj, rfl⟩ := List.mem_iff_getElem.mp hx
        exact unhide HN j _ (List.getElem?_eq_getElem hj) (by omega)⟩)
      go_wp2_with fail
      go_ret
      exact ⟨_, rfl, unhide RR, rfl⟩
end
end Go.Proofs.Qxb6500410aGreat
