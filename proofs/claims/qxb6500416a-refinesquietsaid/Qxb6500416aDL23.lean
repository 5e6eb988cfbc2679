/-
  OWN WORK. THE LAW OF DIFF: a hunk goes, a hunk is doubled: the row of hunks.
-/
import Derived.Test.Qxb6500416aDL21
import Derived.Laws.IdiomCopy
namespace Go.Proofs.Qxb6500416a
open Go.RowKit Go.PlainAid
set_option linter.unusedSimpArgs false
set_option linter.unusedVariables false

theorem hvCells_app (a b : List HV) : hvCells (a ++ b) = hvCells a ++ hvCells b := by
  induction a with
  | nil => rfl
  | cons x r ih => simp [hvCells, ih]
theorem hvCells_drop : ∀ (l : List HV) (k : Nat), hvCells (l.drop k) = (hvCells l).drop (k * 3)
  | l, 0 => by simp
  | [], k + 1 => by simp [hvCells]
  | h :: r, k + 1 => by
    have e : (k + 1) * 3 = k * 3 + 1 + 1 + 1 := by omega
    rw [e, List.drop_succ_cons, hvCells_drop r k]
    simp [hvCells]
theorem hvCells_take : ∀ (l : List HV) (k : Nat), hvCells (l.take k) = (hvCells l).take (k * 3)
  | l, 0 => by simp [hvCells]
  | [], k + 1 => by simp [hvCells]
  | h :: r, k + 1 => by
    have e : (k + 1) * 3 = k * 3 + 1 + 1 + 1 := by omega
    rw [e, List.take_succ_cons]
    simp [hvCells, hvCells_take r k]
/-- A row of cells over which others are laid. -/
def putL : List Value → Nat → List Value → List Value
  | xs, _, [] => xs
  | xs, o, v :: r => putL (xs.set o v) (o + 1) r
theorem putL_eq : ∀ (vs xs : List Value) (o : Nat), o + vs.length ≤ xs.length → putL xs o vs = xs.take o ++ vs ++ xs.drop (o + vs.length)
  | [], xs, o, h => by simp [putL]
  | v :: r, xs, o, h => by
    simp only [List.length_cons] at h
    rw [putL, putL_eq r (xs.set o v) (o + 1) (by simp; omega)]
    have e1 : (xs.set o v).take (o + 1) = xs.take o ++ [v] := by
      rw [List.take_succ_eq_append_getElem (by simp; omega)]
      simp [List.take_set_of_le]
    have e2 : (xs.set o v).drop (o + 1 + r.length) = xs.drop (o + (r.length + 1)) := by
      rw [List.drop_set_of_lt (by omega)]
      congr 1
      omega
    rw [e1, e2]
    simp
theorem row_sets {e : TypeId} {size g n cap : Nat} : ∀ (vs : List Value) {w : World} {xs : List Value} (o : Nat), w.ownsRow 0 e size (.slice (some ⟨g, 0, none⟩) n cap) n xs → o + vs.length ≤ n * size → (w.setCells g o vs).ownsRow 0 e size (.slice (some ⟨g, 0, none⟩) n cap) n (putL xs o vs)
  | [], w, xs, o, h, _ => h
  | v :: r, w, xs, o, h, hl => by
    simp only [List.length_cons] at hl
    exact row_sets r (o + 1) (row_set h (i := o) (by omega) v) (by omega)
theorem only_sets (g : Nat) : ∀ (vs : List Value) (w : World) (o : Nat), Only (fun y => y = g) w (w.setCells g o vs)
  | [], w, o => Only.refl _ _
  | v :: r, w, o => (donly1 (w := w) (p := g) o v).trans (only_sets g r _ (o + 1)) (fun _ _ h => h)
theorem row_short {w : World} {e : TypeId} {size g n cap : Nat} {xs : List Value} (h : w.ownsRow 0 e size (.slice (some ⟨g, 0, none⟩) n cap) n xs) (m : Nat) (hm : m ≤ n) : w.ownsRow 0 e size (.slice (some ⟨g, 0, none⟩) m cap) m (xs.take (m * size)) := by
  have hms : m * size ≤ n * size := Nat.mul_le_mul_right _ hm
  obtain ⟨hl, h1 | ⟨g', cap', cur, e1, hb, hg, hn, hmx, hs, ht⟩⟩ := h
  · exact absurd h1.1 (by simp)
  · obtain ⟨rfl, rfl⟩ : g = g' ∧ cap = cap' := by simpa using e1
    exact ⟨by simp; omega, .inr ⟨g, cap, cur, rfl, hb, hg, by omega, hmx, hs, by rw [← ht, List.take_take, Nat.min_eq_left hms]⟩⟩
theorem row_cap {w : World} {e : TypeId} {size g n cap : Nat} {xs : List Value} (h : w.ownsRow 0 e size (.slice (some ⟨g, 0, none⟩) n cap) n xs) : n ≤ cap ∧ cap ≤ maxLen := by
  obtain ⟨hl, h1 | ⟨g', cap', cur, e1, hb, hg, hn, hmx, hs, ht⟩⟩ := h
  · exact absurd h1.1 (by simp)
  · obtain ⟨rfl, rfl⟩ : g = g' ∧ cap = cap' := by simpa using e1
    exact ⟨hn, hmx⟩
/-- One place of a list goes. -/
def outL {α : Type} (l : List α) (a : Nat) : List α := l.take a ++ l.drop (a + 1)
/-- One place more: x stands at a. -/
def inL {α : Type} (l : List α) (a : Nat) (x : α) : List α := l.take a ++ x :: l.drop a
theorem outL_len {α : Type} (l : List α) (a : Nat) (h : a < l.length) : (outL l a).length = l.length - 1 := by simp [outL]; omega
theorem inL_len {α : Type} (l : List α) (a : Nat) (x : α) (h : a ≤ l.length) : (inL l a x).length = l.length + 1 := by simp [inL]; omega
theorem inL_end {α : Type} (l : List α) (x : α) : inL l l.length x = l ++ [x] := by simp [inL]
theorem inL_set {α : Type} (l : List α) (a : Nat) (x y : α) (h : a ≤ l.length) : (inL l a x).set a y = inL l a y := by
  unfold inL
  rw [List.set_append_right _ _ (by simp; omega)]
  simp [Nat.min_eq_left h]
theorem inL_down {α : Type} (l : List α) (a : Nat) (h : a < l.length) : inL l (a + 1) l[a] = inL l a l[a] := by
  unfold inL
  rw [List.drop_eq_getElem_cons h]
  have := List.take_succ_eq_append_getElem h
  rw [this, List.append_assoc]
  rfl
theorem inL_get {α : Type} (l : List α) (a : Nat) (x : α) (h : a < l.length) (h' : a < (inL l (a + 1) x).length) : (inL l (a + 1) x)[a] = l[a] := by
  have h2 : (inL l (a + 1) x)[a]? = some l[a] := by
    unfold inL
    rw [List.getElem?_append_left (by simp; omega), List.getElem?_take_of_lt (by omega)]
    exact List.getElem?_eq_getElem h
  rw [List.getElem?_eq_getElem h'] at h2
  simpa using h2
theorem HvOk.out {w : World} {G : Nat → Prop} : ∀ {hs : List HV} {ks : List Hk} (i : Nat), HvOk w G hs ks → HvOk w G (outL hs i) (outL ks i)
  | [], [], i, _ => by simp [outL, HvOk]
  | h :: hs, k :: ks, 0, hh => by simpa [outL] using hh.2
  | h :: hs, k :: ks, i + 1, hh => by
    have := HvOk.out i hh.2
    simp only [outL] at this ⊢
    exact ⟨hh.1, this⟩
  | [], k :: ks, _, hh => hh.elim
  | h :: hs, [], _, hh => hh.elim
theorem HvOk.inn_ {w : World} {G : Nat → Prop} {hv : HV} {kv : Hk} (h1 : HvOk1 w G hv kv) : ∀ {hs : List HV} {ks : List Hk} (i : Nat), HvOk w G hs ks → HvOk w G (inL hs i hv) (inL ks i kv)
  | [], [], i, _ => by simp [inL, HvOk]; exact h1
  | h :: hs, k :: ks, 0, hh => by simp only [inL, List.take_zero, List.drop_zero, List.nil_append]; exact ⟨h1, hh⟩
  | h :: hs, k :: ks, i + 1, hh => by
    have := HvOk.inn_ h1 i hh.2
    simp only [inL] at this ⊢
    exact ⟨hh.1, this⟩
  | [], k :: ks, _, hh => hh.elim
  | h :: hs, [], _, hh => hh.elim
theorem Dst.out {hs : List HV} (hd : Dst hs) (a : Nat) (ha : a < hs.length) : Dst (outL hs a) := by
  have e := self_parts hs a ha
  rw [e, dst_parts] at hd
  unfold Dst outL
  rw [hvB_app, List.pairwise_append]
  refine ⟨hd.1, hd.2.1, fun x hx y hy => ?_⟩
  rcases x with _ | x
  · exact .inl rfl
  · refine .inr (fun e => ?_)
    subst e
    exact hd.2.2.2.2 x hx hy
theorem Dst.inn_ {hs : List HV} (hd : Dst hs) (a : Nat) (h : HV) (h1 : ∀ y, h.dv.ownBlock = some y → h.iv.ownBlock ≠ some y) (h2 : ∀ y, h.dv.ownBlock = some y ∨ h.iv.ownBlock = some y → some y ∉ hvB hs) : Dst (inL hs a h) := by
  have e : hvB hs = hvB (hs.take a) ++ hvB (hs.drop a) := by rw [← hvB_app, List.take_append_drop]
  have hd' := hd
  unfold Dst at hd'
  rw [e, List.pairwise_append] at hd'
  unfold inL
  rw [dst_parts]
  refine ⟨hd'.1, hd'.2.1, h1, fun y hy => ?_, fun y hy hm => ?_⟩
  · have := h2 y hy
    rw [e] at this
    exact ⟨fun hm => this (List.mem_append_left _ hm), fun hm => this (List.mem_append_right _ hm)⟩
  · rcases hd'.2.2 _ hy _ hm with e | e
    · cases e
    · exact e rfl
theorem PB.out {p : List Hk} (h : PB p) (a : Nat) : PB (outL p a) := ⟨by have := h.len; simp [outL]; omega, fun k hk => h.all k (by
  rcases List.mem_append.1 hk with h1 | h1
  · exact List.mem_of_mem_take h1
  · exact List.mem_of_mem_drop h1)⟩
theorem PB.inn_ {p : List Hk} (h : PB p) (a : Nat) (k : Hk) (hk : KB k) (hl : p.length ≤ 2048) : PB (inL p a k) := ⟨by simp [inL]; omega, fun x hx => by
  rcases List.mem_append.1 hx with h1 | h1
  · exact h.all x (List.mem_of_mem_take h1)
  · rcases List.mem_cons.1 h1 with h1 | h1
    · subst h1; exact hk
    · exact h.all x (List.mem_of_mem_drop h1)⟩
section
variable {B : Nat} {w w' : World} {l e g cap n0 : Nat} {mp r0 r1 k0 k1 k2 k3 : Value} {tx : ByteArray} {hs : List HV} {p : List Hk} {A0 A1 : List Fl} {L : List Str} {F R M : Nat → Prop}
/-- The row of hunks is written, and the register turns. -/
theorem LS.repatch {R' : Nat → Prop} {v' : Value} {hs' : List HV} {p' : List Hk} (h : LS B w l e mp (.slice (some ⟨g, 0, none⟩) n0 cap) r0 r1 k0 k1 k2 k3 tx hs p A0 A1 L F R M) (ho : Only (fun y => y = g ∨ y = l) w w') (hw : LW w' l (.pointer (some ⟨e, 0, none⟩)) mp v' (.string tx) r0 r1 k0 k1 k2 k3) (hP : PatO w' v' hs' p' R') (hD : Dst hs') (hB : PB p') (up : ∀ y, R y → R' y) (dn : ∀ y, R' y → R y ∨ (w.heap.size ≤ y ∧ y < w'.heap.size)) : LS B w' l e mp v' r0 r1 k0 k1 k2 k3 tx hs' p' A0 A1 L F R' M := by
  obtain ⟨cg, hgh⟩ := own_ty h.pat.1 g rfl
  have hR : R g := h.pat.2.2 g rfl
  have nR : ∀ y, r0.ownBlock = some y ∨ r1.ownBlock = some y → ¬ (y = g ∨ y = l) := fun y hy hs' => by
    have hf : ∃ c, Has w y c 60 := by
      rcases hy with hy | hy
      · exact own_ty h.f0 y hy
      · exact own_ty h.f1 y hy
    obtain ⟨c, hc⟩ := hf
    rcases hs' with e | e
    · subst e
      exact Has.ne hc hgh (by decide) rfl
    · subst e
      exact h.lR (h.rf y hy)
  refine h.regs hw hP hD hB (ownsRow_keep h.f0 ho (fun y hy => nR y (.inl hy))) (ownsRow_keep h.f1 ho (fun y hy => nR y (.inr hy))) h.n0 h.n1 (fun y hy => up y (h.rf y hy)) h.r01 ho (fun y hy => ?_) dn
  rcases hy with e | e
  · exact .inr (e ▸ hR)
  · exact .inl e
/-- A hunk goes. -/
theorem LS.gone (h : LS B w l e mp (.slice (some ⟨g, 0, none⟩) p.length cap) r0 r1 k0 k1 k2 k3 tx hs p A0 A1 L F R M) (a m : Nat) (ha : a < p.length) (hm : a + m = p.length - 1) (w1 : World) (hw1 : Only (fun _ => False) w w1) : Stp B l w ((w1.setCells g (0 + a * 3) (hvCells (hs.drop (a + 1)))).setCell ⟨l, 2, none⟩ (.slice (some ⟨g, 0, none⟩) (a + m) cap)) := by
  have hl := h.pat.len
  have has : a < hs.length := by omega
  have hR : R g := h.pat.2.2 g rfl
  have h1 := h.quiet hw1
  have o1 := only_sets g (hvCells (hs.drop (a + 1))) w1 (0 + a * 3)
  have o2 := donly1 (w := w1.setCells g (0 + a * 3) (hvCells (hs.drop (a + 1)))) (p := l) 2 (.slice (some ⟨g, 0, none⟩) (a + m) cap)
  obtain ⟨cg, hgh⟩ := own_ty h1.pat.1 g rfl
  have hne : g ≠ l := Has.ne hgh h1.lw (by decide)
  have oT : Only (fun y => y = g ∨ y = l) w1 ((w1.setCells g (0 + a * 3) (hvCells (hs.drop (a + 1)))).setCell ⟨l, 2, none⟩ (.slice (some ⟨g, 0, none⟩) (a + m) cap)) := (o1.mono (fun _ _ h => .inl h)).trans (o2.mono (T := fun y => y = g ∨ y = l) (fun _ _ h => .inr h)) (fun _ _ h => h)
  have hrow := row_sets (hvCells (hs.drop (a + 1))) (0 + a * 3) (by have := h1.pat.1; rw [hl] at this; exact this) (by rw [hvCells_len]; simp; omega)
  have hrow2 := row_short hrow (a + m) (by omega)
  rw [putL_eq _ _ _ (by rw [hvCells_len, hvCells_len]; simp; omega)] at hrow2
  have eL : (List.take (0 + a * 3) (hvCells hs) ++ hvCells (hs.drop (a + 1)) ++ List.drop (0 + a * 3 + (hvCells (hs.drop (a + 1))).length) (hvCells hs)).take ((a + m) * 3) = hvCells (outL hs a) := by
    rw [Nat.zero_add, ← hvCells_take]
    rw [List.take_append_of_le_length (by rw [List.length_append, hvCells_len, hvCells_len]; simp; omega)]
    unfold outL
    rw [hvCells_app]
    apply List.take_of_length_le
    rw [List.length_append, hvCells_len, hvCells_len]
    simp
    omega
  rw [eL] at hrow2
  have hol : (outL hs a).length = a + m := by rw [outL_len hs a has]; omega
  have hrow3 : ((w1.setCells g (0 + a * 3) (hvCells (hs.drop (a + 1)))).setCell ⟨l, 2, none⟩ (.slice (some ⟨g, 0, none⟩) (a + m) cap)).ownsRow 0 62 3 (.slice (some ⟨g, 0, none⟩) (a + m) cap) (outL hs a).length (hvCells (outL hs a)) := by
    rw [hol]
    exact ownsRow_keep hrow2 o2 (fun y hy e => by simp [Value.ownBlock] at hy; exact hne (hy.trans e))
  have hok := h1.pat.2.1.keepB oT (fun y hy e => by
    rcases e with e | e
    · exact h1.pat.apart y hy e
    · exact h.lR (e ▸ (h1.pat.2.1.blk y hy).1))
  have hS := h1.repatch (R' := R) oT ((LW.keep h1.lw o1 (fun e => hne e.symm)).set2 (.slice (some ⟨g, 0, none⟩) (a + m) cap)) ⟨hrow3, hok.out a, fun y hy => by simp [Value.ownBlock] at hy; exact hy ▸ hR⟩ (h.dst.out a has) (h.pb.out a) (fun y hy => hy) (fun y hy => .inl hy)
  refine ⟨hS.li, (hw1.mono (T := fun y => B ≤ y) (fun _ _ h => h.elim)).trans oT (fun y _ hy => ?_)⟩
  rcases hy with hy | hy
  · exact hy ▸ h.bR g hR
  · exact hy ▸ h.bl
/-- A hunk is doubled. -/
theorem LS.doubled (h : LS B w l e mp (.slice (some ⟨g, 0, none⟩) p.length cap) r0 r1 k0 k1 k2 k3 tx hs p A0 A1 L F R M) (a : Nat) (ha : a < p.length) (hl : p.length ≤ 2048) {gg capg : Nat} {dv iv : Value} (ho : Only (fun y => y = g ∨ y = l) w w') (hw : LW w' l (.pointer (some ⟨e, 0, none⟩)) mp (.slice (some ⟨gg, 0, none⟩) (p.length + 1) capg) (.string tx) r0 r1 k0 k1 k2 k3) (hrow : w'.ownsRow 0 62 3 (.slice (some ⟨gg, 0, none⟩) (p.length + 1) capg) (p.length + 1) (hvCells (inL hs a ⟨p[a].at_, dv, iv⟩))) (hd : OwnL w' dv p[a].del) (hi : OwnL w' iv p[a].ins) (hdn : ∀ y, dv.ownBlock = some y → w.heap.size ≤ y ∧ y < w'.heap.size) (hin : ∀ y, iv.ownBlock = some y → w.heap.size ≤ y ∧ y < w'.heap.size) (hdi : ∀ y, dv.ownBlock = some y → iv.ownBlock ≠ some y) (hgg : gg = g ∨ (w.heap.size ≤ gg ∧ gg < w'.heap.size)) : Stp B l w w' := by
  have hln := h.pat.len
  have hR : R g := h.pat.2.2 g rfl
  have hk := h.pb.all p[a] (List.getElem_mem ha)
  have hok := (h.pat.2.1.keepB ho (fun y hy e => by
    rcases e with e | e
    · exact h.pat.apart y hy e
    · exact h.lR (e ▸ (h.pat.2.1.blk y hy).1))).monoG (G' := fun y => R y ∨ (w.heap.size ≤ y ∧ y < w'.heap.size)) (fun y hy => .inl hy)
  have hlen : (inL hs a ⟨p[a].at_, dv, iv⟩).length = p.length + 1 := by rw [inL_len _ _ _ (by omega)]; omega
  have hS := h.repatch (R' := fun y => R y ∨ (w.heap.size ≤ y ∧ y < w'.heap.size)) ho hw (hs' := inL hs a ⟨p[a].at_, dv, iv⟩) (p' := inL p a ⟨p[a].at_, p[a].del, p[a].ins⟩) ⟨by rw [hlen]; exact hrow, HvOk.inn_ ⟨rfl, hd, hi, fun y hy => by
    rcases hy with hy | hy
    · exact .inr (hdn y hy)
    · exact .inr (hin y hy)⟩ a hok, fun y hy => by
    simp [Value.ownBlock] at hy
    subst hy
    rcases hgg with e | e
    · subst e; exact .inl hR
    · exact .inr e⟩ (h.dst.inn_ a _ hdi (fun y hy hm => by
      have := (h.pat.2.1.blk y hm).2
      rcases hy with hy | hy
      · have := hdn y hy; omega
      · have := hin y hy; omega)) (h.pb.inn_ a _ hk hl) (fun y hy => .inl hy) (fun y hy => hy)
  refine ⟨hS.li, ho.mono (fun y _ hy => ?_)⟩
  rcases hy with hy | hy
  · exact hy ▸ h.bR g hR
  · exact hy ▸ h.bl
end
/-- Three cells of one hunk, in a row with room. -/
theorem row_hunk {w : World} {g n cap : Nat} {l : List HV} (h : w.ownsRow 0 62 3 (.slice (some ⟨g, 0, none⟩) n cap) n (hvCells l)) (i : Nat) (hi : i < n) (hl : l.length = n) (a : Int) (d v : Value) : (((w.setCell ⟨g, i * 3, none⟩ (.int .i64 a)).setCell ⟨g, i * 3 + 1, none⟩ d).setCell ⟨g, i * 3 + 2, none⟩ v).ownsRow 0 62 3 (.slice (some ⟨g, 0, none⟩) n cap) n (hvCells (l.set i ⟨a, d, v⟩)) := by
  have h1 := row_set h (i := i * 3) (by omega) (.int .i64 a)
  rw [hvc_set0 l i (by omega)] at h1
  have h2 := row_set h1 (i := i * 3 + 1) (by omega) d
  rw [hvc_set1 _ i (by simp; omega)] at h2
  have h3 := row_set h2 (i := i * 3 + 2) (by omega) v
  rw [hvc_set2 _ i (by simp; omega)] at h3
  simpa using h3
theorem only_hunk {w : World} {g i : Nat} (a d v : Value) : Only (fun y => y = g) w (((w.setCell ⟨g, i * 3, none⟩ a).setCell ⟨g, i * 3 + 1, none⟩ d).setCell ⟨g, i * 3 + 2, none⟩ v) :=
  ((donly1 (w := w) (p := g) (i * 3) a).trans (donly1 (p := g) (i * 3 + 1) d) (fun _ _ h => h)).trans (donly1 (p := g) (i * 3 + 2) v) (fun _ _ h => h)
/-- What stands at place i of a row of hunks. -/
theorem row_at {w : World} {g n cap : Nat} {l : List HV} (h : w.ownsRow 0 62 3 (.slice (some ⟨g, 0, none⟩) n cap) n (hvCells l)) (i : Nat) (hi : i < l.length) : w.cell? ⟨g, i * 3, none⟩ = some (.int .i64 l[i].at_) ∧ w.cell? ⟨g, i * 3 + 1, none⟩ = some l[i].dv ∧ w.cell? ⟨g, i * 3 + 2, none⟩ = some l[i].iv := by
  have hc := World.ownsRow.cells h (g := g) rfl
  obtain ⟨a1, a2, a3⟩ := hvCells_at l i hi
  have b1 := hc _ _ a1
  have b2 := hc _ _ a2
  have b3 := hc _ _ a3
  rw [addr_add] at b1 b2 b3
  exact ⟨b1, b2, b3⟩
end Go.Proofs.Qxb6500416a
