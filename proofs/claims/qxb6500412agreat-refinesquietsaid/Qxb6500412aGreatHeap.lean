/-
  OWN WORK. No program in sight: worlds whose blocks are told one by one. 'Only S w w'': below w's size nothing outside S has turned.
-/
import Derived.WalkKit
namespace Go.Proofs.Qxb6500412aGreat
open Go.RowKit

theorem hide {p : Prop} (h : p) : Hid p := h
theorem unhide {p : Prop} (h : Hid p) : p := h

structure Only (S : Nat → Prop) (w w' : World) : Prop where
  os : w'.os = w.os
  tape : w'.tape = w.tape
  output : w'.output = w.output
  size : w.heap.size ≤ w'.heap.size
  block : ∀ k, k < w.heap.size → ¬ S k → w'.heap[k]? = w.heap[k]?

theorem Only.refl (S : Nat → Prop) (w : World) : Only S w w := ⟨rfl, rfl, rfl, Nat.le_refl _, fun _ _ _ => rfl⟩

theorem Only.trans {S T : Nat → Prop} {a b c : World} (h : Only S a b) (k : Only T b c) (hT : ∀ i, i < a.heap.size → T i → S i) : Only S a c :=
  ⟨k.os.trans h.os, k.tape.trans h.tape, k.output.trans h.output, Nat.le_trans h.size k.size,
   fun i hi hn => (k.block i (Nat.lt_of_lt_of_le hi h.size) (fun ht => hn (hT i hi ht))).trans (h.block i hi hn)⟩

theorem Only.mono {S T : Nat → Prop} {a b : World} (h : Only S a b) (hT : ∀ i, i < a.heap.size → S i → T i) : Only T a b :=
  ⟨h.os, h.tape, h.output, h.size, fun i hi hn => h.block i hi (fun hs => hn (hT i hi hs))⟩

theorem Only.drew {S : Nat → Prop} {a w : World} (h : Only S a w) : Only S a w.drew := ⟨h.os, h.tape, h.output, h.size, h.block⟩

theorem Only.alloc {S : Nat → Prop} {a w : World} (h : Only S a w) (o : Obj) : Only S a (w.alloc o) :=
  h.trans (T := fun _ => False) ⟨rfl, rfl, rfl, by simp, fun k hk _ => Below.heap_alloc _ _ _ (by omega)⟩ (fun _ _ f => f.elim)

theorem Only.setCell {S : Nat → Prop} {a w : World} (h : Only S a w) {p : Addr} (hp : p.block < a.heap.size → S p.block) (u : Value) : Only S a (w.setCell p u) :=
  h.trans (T := fun k => k = p.block) ⟨rfl, rfl, rfl, by simp [World.setCell], fun _ _ hn => Below.heap_setCell _ _ _ _ hn⟩ (fun i hi e => by subst e; exact hp hi)

theorem Only.grown {S : Nat → Prop} {a w w' : World} {row : Option Nat} (h : Only S a w) (hg : w.grownBy w' row) (hr : ∀ k, row = some k → k < a.heap.size → S k) : Only S a w' :=
  h.trans (T := fun k => row = some k) ⟨hg.os, hg.tape, hg.output, hg.size, fun k hk hn => hg.block k hk (fun e => hn e.symm)⟩ (fun i hi e => hr i e hi)

theorem Only.below {S : Nat → Prop} {a w : World} {B : Nat} (h : Only S a w) (hS : ∀ k, S k → B ≤ k) (hB : B ≤ a.heap.size) : Below B a w :=
  ⟨h.os, h.tape, h.output, h.size, fun k hk => h.block k (by omega) (fun hs => by have := hS k hs; omega)⟩

theorem Only.of_below {a w : World} (h : Below a.heap.size a w) : Only (fun _ => False) a w :=
  ⟨h.os, h.tape, h.output, h.size, fun k hk _ => h.block k hk⟩

/-- F, and the blocks that came between w and w'. -/
def Ext (F : Nat → Prop) (w w' : World) : Nat → Prop := fun k => F k ∨ (w.heap.size ≤ k ∧ k < w'.heap.size)
theorem Ext.in {F : Nat → Prop} {w w' : World} (hF : ∀ k, F k → k < w.heap.size) (hs : w.heap.size ≤ w'.heap.size) : ∀ k, Ext F w w' k → k < w'.heap.size := by
  intro k hk; rcases hk with hk | hk
  · have := hF k hk; omega
  · exact hk.2
theorem Ext.trans {F : Nat → Prop} {w w1 w2 : World} (h1 : w.heap.size ≤ w1.heap.size) (h2 : w1.heap.size ≤ w2.heap.size) : ∀ k, Ext (Ext F w w1) w1 w2 k → Ext F w w2 k := by
  intro k hk; rcases hk with (hk | hk) | hk
  · exact .inl hk
  · exact .inr ⟨hk.1, by omega⟩
  · exact .inr ⟨by omega, hk.2⟩
theorem Ext.le {F : Nat → Prop} {w w' : World} {B : Nat} (hF : ∀ k, F k → B ≤ k) (hB : B ≤ w.heap.size) : ∀ k, Ext F w w' k → B ≤ k := by
  intro k hk; rcases hk with hk | hk
  · exact hF k hk
  · omega
theorem Ext.off {F G : Nat → Prop} {w w' : World} (hFG : ∀ k, F k → ¬ G k) (hG : ∀ k, G k → k < w.heap.size) : ∀ k, Ext F w w' k → ¬ G k := by
  intro k hk hg; rcases hk with hk | hk
  · exact hFG k hk hg
  · have := hG k hg; omega
theorem Ext.off' {F G : Nat → Prop} {w w' : World} (hFG : ∀ k, G k → ¬ F k) (hG : ∀ k, G k → k < w.heap.size) : ∀ k, G k → ¬ Ext F w w' k := by
  intro k hg hk; rcases hk with hk | hk
  · exact hFG k hg hk
  · have := hG k hg; omega
theorem Only.step {F : Nat → Prop} {w w1 w2 : World} (h : Only F w w1) (k : Only (Ext F w w1) w1 w2) : Only F w w2 :=
  h.trans k (fun i hi ht => by rcases ht with ht | ht; exact ht; omega)

/-- Block k holds the cells c, of type t, none of them frozen. -/
def Has (w : World) (k : Nat) (c : Array Value) (t : TypeId) : Prop := w.heap[k]? = some (.cells c t (0, 0))

theorem Has.lt {w : World} {k : Nat} {c : Array Value} {t : TypeId} (h : Has w k c t) : k < w.heap.size := lt_of_block h

theorem Has.cell {w : World} {k : Nat} {c : Array Value} {t : TypeId} (h : Has w k c t) (i : Nat) : w.cell? ⟨k, i, none⟩ = c[i]? := by
  unfold Has at h; simp [World.cell?, h]

theorem Has.free {w : World} {k : Nat} {c : Array Value} {t : TypeId} (h : Has w k c t) (i : Nat) : w.frozen? ⟨k, i, none⟩ = false := by
  unfold Has at h; simp [World.frozen?, h]

theorem Has.keep {S : Nat → Prop} {w w' : World} {k : Nat} {c : Array Value} {t : TypeId} (h : Has w k c t) (ho : Only S w w') (hk : ¬ S k) : Has w' k c t :=
  (ho.block k h.lt hk).trans h

theorem Has.alloc {w : World} {k : Nat} {c : Array Value} {t : TypeId} (h : Has w k c t) (o : Obj) : Has (w.alloc o) k c t :=
  (Below.heap_alloc _ _ _ h.lt).trans h

theorem Has.drew {w : World} {k : Nat} {c : Array Value} {t : TypeId} (h : Has w k c t) : Has w.drew k c t := h

theorem Has.new (w : World) (c : Array Value) (t : TypeId) : Has (w.alloc (.cells c t)) w.heap.size c t := heap_alloc_new w _

theorem Has.new' (w : World) (c : Array Value) (t : TypeId) (k : Nat) (hk : k = w.heap.size) : Has (w.alloc (.cells c t)) k c t := by subst hk; exact Has.new w c t

theorem Has.setCell_other {w : World} {k : Nat} {c : Array Value} {t : TypeId} (h : Has w k c t) {p : Addr} (hp : k ≠ p.block) (u : Value) : Has (w.setCell p u) k c t :=
  (Below.heap_setCell _ _ _ _ hp).trans h

theorem Has.setCell {w : World} {k : Nat} {c : Array Value} {t : TypeId} (h : Has w k c t) (i : Nat) (u : Value) : Has (w.setCell ⟨k, i, none⟩ u) k (c.setIfInBounds i u) t := by
  have hlt := h.lt
  have h' : w.heap[k] = .cells c t (0, 0) := by simpa [Has, Array.getElem?_eq_getElem hlt] using h
  show (w.heap.modify k _)[k]? = _
  rw [Array.getElem?_eq_getElem (by simpa using hlt), Array.getElem_modify_self, h']
  rfl

theorem Has.ne {w : World} {j k : Nat} {c d : Array Value} {t u : TypeId} (h : Has w j c t) (h' : Has w k d u) (ht : t ≠ u) : j ≠ k := by
  intro e; subst e
  unfold Has at h h'
  rw [h] at h'
  simp at h'
  exact ht h'.2

theorem Has.inj {w : World} {k : Nat} {c d : Array Value} {t u : TypeId} (h : Has w k c t) (h' : Has w k d u) : c = d ∧ t = u := by
  unfold Has at h h'
  rw [h] at h'
  simpa using h'

/-- A list of strings, as cells. -/
def strs (l : List ByteArray) : Array Value := (l.map Value.string).toArray
def ints (l : List Int) : Array Value := (l.map (Value.int .i64)).toArray
def bools (l : List Bool) : Array Value := (l.map Value.bool).toArray

@[simp] theorem strs_size (l : List ByteArray) : (strs l).size = l.length := by simp [strs]
@[simp] theorem ints_size (l : List Int) : (ints l).size = l.length := by simp [ints]
@[simp] theorem bools_size (l : List Bool) : (bools l).size = l.length := by simp [bools]
theorem strs_get (l : List ByteArray) (i : Nat) (h : i < l.length) : (strs l)[i]? = some (.string l[i]) := by simp [strs, h]
theorem ints_get (l : List Int) (i : Nat) (h : i < l.length) : (ints l)[i]? = some (.int .i64 l[i]) := by simp [ints, h]
theorem bools_get (l : List Bool) (i : Nat) (h : i < l.length) : (bools l)[i]? = some (.bool l[i]) := by simp [bools, h]
theorem strs_set (l : List ByteArray) (i : Nat) (x : ByteArray) : (strs l).setIfInBounds i (.string x) = strs (l.set i x) := by simp [strs, List.map_set]
theorem ints_set' (l : List Int) (i : Nat) (x : Int) : (ints l).setIfInBounds i (.int .i64 x) = ints (l.set i x) := by simp [ints, List.map_set]
theorem bools_set (l : List Bool) (i : Nat) (x : Bool) : (bools l).setIfInBounds i (.bool x) = bools (l.set i x) := by simp [bools, List.map_set]

theorem addr_add (b j : Nat) : (⟨b, 0, none⟩ : Addr).add j = ⟨b, j, none⟩ := by unfold Addr.add; split <;> simp_all

theorem ownsRow_keep {S : Nat → Prop} {w w' : World} {base e size n : Nat} {v : Value} {xs : List Value} (h : w.ownsRow base e size v n xs) (ho : Only S w w') (hS : ∀ k, v.ownBlock = some k → ¬ S k) : w'.ownsRow base e size v n xs := by
  obtain ⟨h1, h2⟩ := h
  refine ⟨h1, ?_⟩
  rcases h2 with h2 | ⟨g, cap, cur, hv, hg, hh, r⟩
  · exact Or.inl h2
  · subst hv
    exact Or.inr ⟨g, cap, cur, rfl, hg, (ho.block g (lt_of_block hh) (hS g rfl)).trans hh, r⟩

theorem news_ok (w : World) (l : List Value) (t n : Nat) (hn : n = w.heap.size) : ∀ j u, l[j]? = some u → (w.alloc (.cells l.toArray t)).cell? ((⟨n, 0, none⟩ : Addr).add j) = some u := by
  intro j u hu
  subst hn
  rw [addr_add, (Has.new w l.toArray t).cell]
  simpa using hu

theorem ownsRow_shape {w : World} {base e size n : Nat} {v : Value} {xs : List Value} (h : w.ownsRow base e size v n xs) : ∃ a cap, v = .slice a n cap := by
  rcases h.2 with ⟨hv, hn⟩ | ⟨g, cap, cur, hv, _⟩
  · exact ⟨none, 0, by rw [hv, hn]⟩
  · exact ⟨_, cap, hv⟩

theorem ownsRow_ne {w : World} {base e size n : Nat} {v : Value} {xs : List Value} (h : w.ownsRow base e size v n xs) {j : Nat} {c : Array Value} {t : TypeId} (hj : Has w j c t) (ht : e ≠ t) : ∀ k, v.ownBlock = some k → k ≠ j := by
  intro k hk e
  subst e
  rcases h.2 with ⟨hv, _⟩ | ⟨g, cap, cur, hv, _, hg, _⟩
  · subst hv; simp [Value.ownBlock] at hk
  · subst hv; simp [Value.ownBlock] at hk; subst hk
    exact (Has.ne (c := cur) hg hj ht) rfl

theorem ownsRow_lt {w : World} {base e size n : Nat} {v : Value} {xs : List Value} (h : w.ownsRow base e size v n xs) : ∀ k, v.ownBlock = some k → k < w.heap.size := fun k hk => (h.lt k hk).2

section
variable {P : Program} (w : World)
theorem run_append2 (t ty e : TypeId) (i : TypeInfo) (z : Value) (size bytes : Nat) (ht : P.underlying t = some (.slice e)) (hi : P.info? e = some i) (hz : i.zero = some z)
    (hsize : i.size = size) (hby : i.bytes = bytes) (hzs : z.cells.size = size) (hsz : 0 < size)
    (v : Value) (n : Nat) (xs : List Value) (hown : w.ownsRow 0 e size v n xs)
    (a : Addr) (m c : Nat) (news : List Value) (hl : news.length = m * size) (hnews : ∀ j u, news[j]? = some u → w.cell? (a.add j) = some u) (h1 : ∀ u ∈ news, u.oneCell' = true)
    (h63 : n + m ≤ maxLen) (hbytes : (n + m) * bytes ≤ 140737488355328) :
    ∃ v' w', (Builtin.append_ #[t, t] ty #[v, .slice (some a) m c]).run P w = .ok v' w' ∧ w'.ownsRow 0 e size v' (n + m) (xs ++ news) ∧ w.grownBy w' v.ownBlock ∧
      ∀ k, v'.ownBlock = some k → v.ownBlock = some k ∨ k = w.heap.size := by
  obtain ⟨v', w', hr, h2, h3, h4⟩ := run_append_own (P := P) w 0 t ty e i z size bytes ht hi hz hsize hby hzs hsz v n xs hown a m c news hl hnews h1 h63 hbytes (Nat.zero_le _)
  refine ⟨v', w', hr, h2, h3, ?_⟩
  subst hsize
  subst hby
  rcases hown.2 with ⟨rfl, rfl⟩ | ⟨g, cap, cur, rfl, hbg, hg, hnc, hcm, hcs, htake⟩
  · by_cases hm : m = 0
    · intro k hk
      rw [h4.2 ⟨rfl, hm⟩] at hk
      simp [Value.ownBlock] at hk
    · have hr' := run_append_nil (P := P) w t ty e i z ht hi hz a m c news hl hnews (by omega) (by simp only [maxLen] at h63; omega) (by have hb := hbytes; simp only [Nat.zero_add] at hb; omega)
      rw [hr] at hr'
      simp only [Result.ok.injEq] at hr'
      intro k hk
      rw [hr'.1] at hk
      simp [Value.ownBlock] at hk
      exact .inr hk.symm
  · by_cases hroom : n + m ≤ cap
    · have hfit : n * i.size + news.length ≤ cur.size := by rw [hl, hcs, ← Nat.add_mul]; exact Nat.mul_le_mul_right _ hroom
      have hr' := run_append_room (P := P) w t ty e i ht hi g n cap cur hg a m c news hl hnews h1 hroom hfit
      rw [hr] at hr'
      simp only [Result.ok.injEq] at hr'
      intro k hk
      rw [hr'.1] at hk
      exact .inl hk
    · have holds : ∀ j u, xs[j]? = some u → w.cell? ((⟨g, 0, none⟩ : Addr).add j) = some u := hown.cells (g := g) rfl
      have hr' := run_append_grow (P := P) w t ty e i z ht hi hz ⟨g, 0, none⟩ n cap xs hown.1 holds a m c news hl hnews (by omega) (by simp only [maxLen] at h63; omega) (growslice_fits (by omega) hbytes)
      rw [hr] at hr'
      simp only [Result.ok.injEq] at hr'
      intro k hk
      rw [hr'.1] at hk
      simp [Value.ownBlock] at hk
      exact .inr hk.symm

theorem wpList_append2 {ops : Array Oper} {rest : List Oper} {o : Oper} {a : Act} {Q : Exit → Act → World → Prop} (hgd : o.guard = none) (s x : Operand) (t : TypeId)
    (ho : o.op = .call { callee := .builtin .append, args := #[s, x], argTypes := #[t, t] })
    (e : TypeId) (i : TypeInfo) (z : Value) (size bytes : Nat) (ht : P.underlying t = some (.slice e)) (hi : P.info? e = some i) (hz : i.zero = some z)
    (hsize : i.size = size) (hby : i.bytes = bytes) (hzs : z.cells.size = size) (hsz : 0 < size)
    (v : Value) (n : Nat) (xs : List Value) (hs : a.eval s = v) (hown : w.ownsRow 0 e size v n xs)
    (ad : Addr) (m c : Nat) (news : List Value) (hx : a.eval x = .slice (some ad) m c) (hl : news.length = m * size) (hnews : ∀ j u, news[j]? = some u → w.cell? (ad.add j) = some u) (h1 : ∀ u ∈ news, u.oneCell' = true)
    (h63 : n + m ≤ maxLen) (hbytes : (n + m) * bytes ≤ 140737488355328)
    (h : ∀ v' w', w'.ownsRow 0 e size v' (n + m) (xs ++ news) → w.grownBy w' v.ownBlock → (∀ k, v'.ownBlock = some k → v.ownBlock = some k ∨ k = w.heap.size) → wpList P ops Q rest (a.put o.dst v') w') : wpList P ops Q (o :: rest) a w := by
  refine wpList_plain hgd fun K hK => ?_
  obtain ⟨v', w', hr, h2, h3, h4⟩ := run_append2 (P := P) w t o.type e i z size bytes ht hi hz hsize hby hzs hsz v n xs hown ad m c news hl hnews h1 h63 hbytes
  unfold Oper.wp execOp
  simp only [ho, resolve, invoke, builtin, Sem.run_bind, Sem.run_pure, Result.andThen_ok, List.map_toArray, List.map_cons, List.map_nil, hs, hx, hr]
  exact hK _ _ (h v' w' h2 h3 h4)
end

end Go.Proofs.Qxb6500412aGreat
