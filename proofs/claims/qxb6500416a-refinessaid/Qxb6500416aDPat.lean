/-
  OWN WORK. PATCHES IN MEMORY.
-/
import Derived.Test.Qxb6500416aDLn
namespace Go.Proofs.Qxb6500416a
open Go.RowKit Go.PlainAid
set_option linter.unusedSimpArgs false
set_option linter.unusedVariables false

/-- A hunk as it lies in memory. -/
structure HV where
  at_ : Int
  dv : Value
  iv : Value
def hvCells : List HV → List Value
  | [] => []
  | h :: r => [.int .i64 h.at_, h.dv, h.iv] ++ hvCells r
theorem hvCells_snoc (l : List HV) (h : HV) : hvCells (l ++ [h]) = hvCells l ++ [.int .i64 h.at_, h.dv, h.iv] := by
  induction l with
  | nil => rfl
  | cons a r ih => simp [hvCells, ih]
theorem hvCells_len (l : List HV) : (hvCells l).length = l.length * 3 := by
  induction l with
  | nil => rfl
  | cons a r ih => simp [hvCells, ih]; omega
theorem hvCells_at : ∀ (l : List HV) (i : Nat) (h : i < l.length), (hvCells l)[i * 3]? = some (.int .i64 l[i].at_) ∧ (hvCells l)[i * 3 + 1]? = some l[i].dv ∧ (hvCells l)[i * 3 + 2]? = some l[i].iv
  | [], i, h => by simp at h
  | f :: r, 0, h => ⟨rfl, rfl, rfl⟩
  | f :: r, i + 1, h => by
    have := hvCells_at r i (by simpa using h)
    have e : (i + 1) * 3 = i * 3 + 3 := by omega
    rw [e]
    exact this
/-- One hunk: its lists are rows of their own, in blocks of G. -/
structure HvOk1 (w : World) (G : Nat → Prop) (h : HV) (k : Hk) : Prop where
  at_ : h.at_ = k.at_
  del : OwnL w h.dv k.del
  ins : OwnL w h.iv k.ins
  inn : ∀ y, h.dv.ownBlock = some y ∨ h.iv.ownBlock = some y → G y
def HvOk (w : World) (G : Nat → Prop) : List HV → List Hk → Prop
  | [], [] => True
  | h :: hs, k :: ks => HvOk1 w G h k ∧ HvOk w G hs ks
  | _, _ => False
section
variable {w w' : World} {G : Nat → Prop}
theorem HvOk1.keep {S : Nat → Prop} {h : HV} {k : Hk} (hh : HvOk1 w G h k) (ho : Only S w w') (hS : ∀ y, G y → ¬ S y) : HvOk1 w' G h k :=
  ⟨hh.at_, hh.del.keep ho (fun y hy => hS y (hh.inn y (.inl hy))), hh.ins.keep ho (fun y hy => hS y (hh.inn y (.inr hy))), hh.inn⟩
theorem HvOk1.mono {G' : Nat → Prop} {h : HV} {k : Hk} (hh : HvOk1 w G h k) (hG : ∀ y, y < w.heap.size → G y → G' y) : HvOk1 w G' h k :=
  ⟨hh.at_, hh.del, hh.ins, fun y hy => hG y (by
    rcases hy with hy | hy
    · exact ownsRow_lt hh.del y hy
    · exact ownsRow_lt hh.ins y hy) (hh.inn y hy)⟩
theorem HvOk.len : ∀ {hs : List HV} {ks : List Hk}, HvOk w G hs ks → hs.length = ks.length
  | [], [], _ => rfl
  | h :: hs, k :: ks, hh => by simp [HvOk.len hh.2]
  | [], k :: ks, hh => hh.elim
  | h :: hs, [], hh => hh.elim
theorem HvOk.keep {S : Nat → Prop} (ho : Only S w w') (hS : ∀ y, G y → ¬ S y) : ∀ {hs : List HV} {ks : List Hk}, HvOk w G hs ks → HvOk w' G hs ks
  | [], [], _ => trivial
  | h :: hs, k :: ks, hh => ⟨hh.1.keep ho hS, HvOk.keep ho hS hh.2⟩
  | [], k :: ks, hh => hh.elim
  | h :: hs, [], hh => hh.elim
theorem HvOk.mono {G' : Nat → Prop} (hG : ∀ y, y < w.heap.size → G y → G' y) : ∀ {hs : List HV} {ks : List Hk}, HvOk w G hs ks → HvOk w G' hs ks
  | [], [], _ => trivial
  | h :: hs, k :: ks, hh => ⟨hh.1.mono hG, HvOk.mono hG hh.2⟩
  | [], k :: ks, hh => hh.elim
  | h :: hs, [], hh => hh.elim
theorem HvOk.snoc {h : HV} {k : Hk} (h1 : HvOk1 w G h k) : ∀ {hs : List HV} {ks : List Hk}, HvOk w G hs ks → HvOk w G (hs ++ [h]) (ks ++ [k])
  | [], [], _ => ⟨h1, trivial⟩
  | x :: hs, y :: ks, hh => ⟨hh.1, HvOk.snoc h1 hh.2⟩
  | [], k :: ks, hh => hh.elim
  | h :: hs, [], hh => hh.elim
theorem HvOk.get : ∀ {hs : List HV} {ks : List Hk} (hh : HvOk w G hs ks) (i : Nat) (h1 : i < hs.length) (h2 : i < ks.length), HvOk1 w G hs[i] ks[i]
  | [], [], _, i, h1, _ => by simp at h1
  | h :: hs, k :: ks, hh, 0, _, _ => hh.1
  | h :: hs, k :: ks, hh, i + 1, h1, h2 => HvOk.get hh.2 i (by simpa using h1) (by simpa using h2)
  | [], k :: ks, hh, _, _, _ => hh.elim
  | h :: hs, [], hh, _, _, _ => hh.elim
end
/-- A patch in an array of its own: the array in G too. -/
def PatO (w : World) (v : Value) (hs : List HV) (p : List Hk) (G : Nat → Prop) : Prop :=
  w.ownsRow 0 62 3 v hs.length (hvCells hs) ∧ HvOk w G hs p ∧ (∀ y, v.ownBlock = some y → G y)
section
variable {w w' : World} {v : Value} {hs : List HV} {p : List Hk} {G : Nat → Prop}
theorem PatO.keep {S : Nat → Prop} (h : PatO w v hs p G) (ho : Only S w w') (hS : ∀ y, G y → ¬ S y) : PatO w' v hs p G :=
  ⟨ownsRow_keep h.1 ho (fun y hy => hS y (h.2.2 y hy)), h.2.1.keep ho hS, h.2.2⟩
theorem PatO.mono {G' : Nat → Prop} (h : PatO w v hs p G) (hG : ∀ y, y < w.heap.size → G y → G' y) : PatO w v hs p G' :=
  ⟨h.1, h.2.1.mono hG, fun y hy => hG y (ownsRow_lt h.1 y hy) (h.2.2 y hy)⟩
theorem PatO.len (h : PatO w v hs p G) : hs.length = p.length := h.2.1.len
theorem PatO.nil (w : World) (G : Nat → Prop) : PatO w (.slice none 0 0) [] [] G := ⟨World.ownsRow_nil _ _ _ _, trivial, fun y hy => by simp [Value.ownBlock] at hy⟩
/-- What stands at place i of a patch. -/
theorem PatO.at (h : PatO w v hs p G) (i : Nat) (hi : i < p.length) : ∃ (g cap : Nat) (hi' : i < hs.length), v = .slice (some ⟨g, 0, none⟩) p.length cap ∧ g < w.heap.size ∧ w.cell? ⟨g, i * 3, none⟩ = some (.int .i64 p[i].at_) ∧ w.cell? ⟨g, i * 3 + 1, none⟩ = some hs[i].dv ∧ w.cell? ⟨g, i * 3 + 2, none⟩ = some hs[i].iv ∧ HvOk1 w G hs[i] p[i] := by
  have hl := h.len
  have hi' : i < hs.length := by omega
  have h1 := h.2.1.get i hi' hi
  rcases h.1.2 with ⟨_, h0⟩ | ⟨g, cap, cur, rfl, _, hg, _⟩
  · omega
  · have hc := World.ownsRow.cells h.1 (g := g) rfl
    obtain ⟨a1, a2, a3⟩ := hvCells_at hs i hi'
    have b1 := hc _ _ a1
    have b2 := hc _ _ a2
    have b3 := hc _ _ a3
    rw [addr_add] at b1 b2 b3
    rw [h1.at_] at b1
    exact ⟨g, cap, hi', by rw [hl], lt_of_block hg, b1, b2, b3, h1⟩
theorem PatO.shape (h : PatO w v hs p G) : ∃ a cap, v = .slice a p.length cap := by
  obtain ⟨a, cap, e⟩ := ownsRow_shape h.1
  exact ⟨a, cap, by rw [e, h.len]⟩
end
theorem Try.infoHunk : (Try.prog.info? 62).map (fun i => (i.zero, i.size, i.bytes)) = some (some (.agg #[.int .i64 0, .slice none 0 0, .slice none 0 0]), 3, 56) := by kernel_rfl
def hvB (hs : List HV) : List (Option Nat) := hs.flatMap (fun h => [h.dv.ownBlock, h.iv.ownBlock])
theorem hvB_snoc (hs : List HV) (h : HV) : hvB (hs ++ [h]) = hvB hs ++ [h.dv.ownBlock, h.iv.ownBlock] := by simp [hvB]
/-- No two lists of a patch share their array. -/
def Dst (hs : List HV) : Prop := (hvB hs).Pairwise (fun a b => a = none ∨ a ≠ b)
theorem HvOk.blk {w : World} {G : Nat → Prop} : ∀ {hs : List HV} {ks : List Hk}, HvOk w G hs ks → ∀ y, some y ∈ hvB hs → G y ∧ y < w.heap.size
  | [], [], _, y, hy => by simp [hvB] at hy
  | h :: hs, k :: ks, hh, y, hy => by
    have hy' : some y = h.dv.ownBlock ∨ some y = h.iv.ownBlock ∨ some y ∈ hvB hs := by simpa [hvB] using hy
    rcases hy' with e | e | e
    · exact ⟨hh.1.inn y (.inl e.symm), ownsRow_lt hh.1.del y e.symm⟩
    · exact ⟨hh.1.inn y (.inr e.symm), ownsRow_lt hh.1.ins y e.symm⟩
    · exact HvOk.blk hh.2 y e
  | [], k :: ks, hh, _, _ => hh.elim
  | h :: hs, [], hh, _, _ => hh.elim
theorem Dst.snoc {hs : List HV} {h : HV} (hd : Dst hs) (h1 : ∀ y, h.dv.ownBlock = some y → some y ∉ hvB hs) (h2 : ∀ y, h.iv.ownBlock = some y → some y ∉ hvB hs) (h3 : ∀ y, h.dv.ownBlock = some y → h.iv.ownBlock ≠ some y) : Dst (hs ++ [h]) := by
  unfold Dst
  rw [hvB_snoc, List.pairwise_append]
  refine ⟨hd, ?_, ?_⟩
  · simp
    cases e : h.dv.ownBlock with
    | none => exact .inl rfl
    | some y => exact .inr (fun e' => h3 y e e'.symm)
  · intro a ha b hb
    cases a with
    | none => exact .inl rfl
    | some y =>
      refine .inr (fun e => ?_)
      subst e
      simp at hb
      rcases hb with hb | hb
      · exact h1 y hb.symm ha
      · exact h2 y hb.symm ha
/-- A patch that grows: all its blocks are new. -/
structure PI (w : World) (ov : Value) (p : List Hk) (wr : World) : Prop where
  own : ∃ hs, PatO wr ov hs p (fun y => w.heap.size ≤ y) ∧ Dst hs
  ho : Only (fun _ => False) w wr
theorem PI.nil (w : World) : PI w (.slice none 0 0) [] w := ⟨⟨[], PatO.nil _ _, List.Pairwise.nil⟩, Only.refl _ _⟩
theorem PI.quiet {w : World} {ov : Value} {p : List Hk} {wr w' : World} (h : PI w ov p wr) (ho : Only (fun _ => False) wr w') : PI w ov p w' := by
  obtain ⟨⟨hs, h1, h3⟩, h2⟩ := h
  exact ⟨⟨hs, h1.keep ho (fun _ _ h => h), h3⟩, h2.trans ho (fun _ _ h => h)⟩
theorem PatO.push {w wr w' : World} {ov v' : Value} {hs : List HV} {p : List Hk} {o : Obj} {n : Nat} {G : Nat → Prop} {h : HV} {k : Hk} (hp : PatO wr ov hs p G) (h1 : HvOk1 wr G h k)
    (hown : w'.ownsRow 0 62 3 v' n (hvCells hs ++ [.int .i64 h.at_, h.dv, h.iv])) (hn : n = hs.length + 1)
    (hgrow : (wr.alloc o).grownBy w' ov.ownBlock) (hwhere : ∀ k, v'.ownBlock = some k → ov.ownBlock = some k ∨ k = wr.heap.size + 1) (hG : ∀ k, wr.heap.size ≤ k → G k) : PatO w' v' (hs ++ [h]) (p ++ [k]) G := by
  have oG := own_only hgrow
  have nel : ∀ (u : Value) (l : List Str), OwnL wr u l → ∀ y, u.ownBlock = some y → ¬ ov.ownBlock = some y := fun u l hu y hy => own_ne hu.row hp.1 (by decide) y hy
  have hk1 : ∀ (h : HV) (k : Hk), HvOk1 wr G h k → HvOk1 w' G h k := fun h k hh => ⟨hh.at_, hh.del.keep oG (nel _ _ hh.del), hh.ins.keep oG (nel _ _ hh.ins), hh.inn⟩
  have hkA : ∀ (hs : List HV) (ks : List Hk), HvOk wr G hs ks → HvOk w' G hs ks := by
    intro hs
    induction hs with
    | nil => intro ks h; cases ks with
      | nil => trivial
      | cons => exact h.elim
    | cons a r ih => intro ks h; cases ks with
      | nil => exact h.elim
      | cons b s => exact ⟨hk1 a b h.1, ih s h.2⟩
  subst hn
  refine ⟨?_, (hkA _ _ hp.2.1).snoc (hk1 _ _ h1), ?_⟩
  · rw [hvCells_snoc, List.length_append]
    exact hown
  · intro y hy
    rcases hwhere y hy with e | e
    · exact hp.2.2 y e
    · exact hG y (by omega)
theorem PI.push {w : World} {ov v' : Value} {hs : List HV} {p : List Hk} {wr w' : World} {o : Obj} {n : Nat} {h : HV} {k : Hk} (hp : PatO wr ov hs p (fun y => w.heap.size ≤ y)) (hd : Dst (hs ++ [h])) (ho : Only (fun _ => False) w wr) (h1 : HvOk1 wr (fun y => w.heap.size ≤ y) h k)
    (hown : w'.ownsRow 0 62 3 v' n (hvCells hs ++ [.int .i64 h.at_, h.dv, h.iv])) (hn : n = hs.length + 1)
    (hgrow : (wr.alloc o).grownBy w' ov.ownBlock) (hwhere : ∀ k, v'.ownBlock = some k → ov.ownBlock = some k ∨ k = wr.heap.size + 1) : PI w v' (p ++ [k]) w' := by
  have hs := ho.size
  exact ⟨⟨_, PatO.push (w := w) hp h1 hown hn hgrow hwhere (fun k hk => by omega), hd⟩, ho.trans (own_only hgrow) (fun y hy e => by have := hp.2.2 y e; omega)⟩
end Go.Proofs.Qxb6500416a
