/-
  OWN WORK. THE GRAPH: what a collection keeps, plain.
-/
import Derived.Test.Qxb6500417aGreatGFgt
namespace Go.Proofs.Qxb6500417aGreat
open Go.RowKit Go.PlainAid
set_option linter.unusedSimpArgs false
set_option linter.unusedVariables false

section
variable {J : Nat → Sl} {rt : Nat} {T : Gt}
theorem stepU_bit {c : Nat → Cr} {id x : Nat} (hn : (c id).np ≤ 2) (j : Nat) : (stepU c id x).testBit j = (x.testBit j || (x.testBit id && (c id).pars.contains j)) := by
  unfold stepU
  by_cases h : x.testBit id = true
  · rw [if_pos h, orPars_bit hn _ (Nat.le_refl _), List.take_of_length_le (by rw [Cr.pars_len _ hn]; exact Nat.le_refl _), h]; simp
  · rw [if_neg h]
    have : x.testBit id = false := by simpa using h
    rw [this]; simp
theorem up_mono (h : TabI J T.c T.nx) (ho : OrdI T.c T.o T.n) : ∀ i x j, i ≤ T.n → x.testBit j = true → (upN T i x).testBit j = true
  | 0, x, j, _, hx => hx
  | i + 1, x, j, hi, hx => up_mono h ho i _ j (by omega) (by rw [stepU_bit (h.cw _ (ho.oin i (by omega))).np, hx]; simp)
theorem par_low (h : TabI J T.c T.nx) (ho : OrdI T.c T.o T.n) {i k : Nat} (hi : i < T.n) (hk : k < T.n) (hp : T.o k ∈ (T.c (T.o i)).pars) : k < i := by
  have h1 := (h.cp _ (ho.oin i hi) _ hp).2
  by_cases e : k < i
  · exact e
  · by_cases e2 : k = i
    · subst e2; omega
    · have := ho.srt i k (by omega) hk; omega
theorem up_high (h : TabI J T.c T.nx) (ho : OrdI T.c T.o T.n) : ∀ i x k, i ≤ T.n → i ≤ k → k < T.n → (upN T i x).testBit (T.o k) = x.testBit (T.o k)
  | 0, x, k, _, _, _ => rfl
  | i + 1, x, k, hi, hk, hkn => by
    show (upN T i (stepU T.c (T.o i) x)).testBit (T.o k) = _
    rw [up_high h ho i _ k (by omega) (by omega) hkn, stepU_bit (h.cw _ (ho.oin i (by omega))).np]
    have : (T.c (T.o i)).pars.contains (T.o k) = false := by
      cases e : (T.c (T.o i)).pars.contains (T.o k) with
      | false => rfl
      | true => have := par_low h ho (i := i) (by omega) hkn (List.contains_iff_mem.1 e); omega
    rw [this]; simp
theorem up_clos (h : TabI J T.c T.nx) (ho : OrdI T.c T.o T.n) : ∀ i x k, i ≤ T.n → k < i → (upN T i x).testBit (T.o k) = true → ∀ p ∈ (T.c (T.o k)).pars, (upN T i x).testBit p = true
  | 0, x, k, _, hk, _ => by omega
  | i + 1, x, k, hi, hk, hb => by
    intro p hp
    by_cases e : k < i
    · exact up_clos h ho i _ k (by omega) e hb p hp
    · have e2 : k = i := by omega
      subst e2
      have hnp := (h.cw _ (ho.oin k (by omega))).np
      have h1 : (upN T k (stepU T.c (T.o k) x)).testBit (T.o k) = true := hb
      rw [up_high h ho k _ k (by omega) (Nat.le_refl _) (by omega), stepU_bit hnp] at h1
      have hx : x.testBit (T.o k) = true := by
        cases hq : x.testBit (T.o k) with
        | true => rfl
        | false => rw [hq] at h1; simp at h1
      refine up_mono h ho k _ p (by omega) ?_
      rw [stepU_bit hnp, hx, List.contains_iff_mem.2 hp]; simp
theorem up_isC (h : TabI J T.c T.nx) (ho : OrdI T.c T.o T.n) : ∀ i x, i ≤ T.n → (∀ j, x.testBit j = true → IsC T.c j) → ∀ j, (upN T i x).testBit j = true → IsC T.c j
  | 0, x, _, hx => hx
  | i + 1, x, hi, hx => up_isC h ho i _ (by omega) (fun j hj => by
    have hC := ho.oin i (by omega)
    rw [stepU_bit (h.cw _ hC).np, Bool.or_eq_true, Bool.and_eq_true] at hj
    rcases hj with e | ⟨_, e⟩
    · exact hx j e
    · exact (h.cp _ hC j (List.contains_iff_mem.1 e)).1)
/-- The bits of the first k branches. -/
def rN (T : Gt) : Nat → Nat
  | 0 => 0
  | k + 1 => rN T k ||| 2 ^ (T.b k).id
theorem rN_bit (T : Gt) (j : Nat) : ∀ k, (rN T k).testBit j = true ↔ ∃ a, a < k ∧ (T.b a).id = j
  | 0 => by simp [rN]
  | k + 1 => by
    unfold rN
    rw [Nat.testBit_or, Nat.testBit_two_pow, Bool.or_eq_true, rN_bit T j k, decide_eq_true_eq]
    constructor
    · rintro (⟨a, h1, h2⟩ | h)
      · exact ⟨a, by omega, h2⟩
      · exact ⟨k, by omega, h⟩
    · rintro ⟨a, h1, h2⟩
      by_cases e : a = k
      · subst e; exact .inr h2
      · exact .inl ⟨a, by omega, h2⟩
def rA (T : Gt) : Nat := if T.name.size = 0 then rN T T.nb ||| 2 ^ T.at_ else rN T T.nb
/-- The roots of a collection. -/
def rootX (T : Gt) : Nat := if T.mg ≠ 0 then rA T ||| 2 ^ T.mg else rA T
theorem rA_bit (T : Gt) (j : Nat) : (rA T).testBit j = true ↔ (∃ a, a < T.nb ∧ (T.b a).id = j) ∨ (T.name.size = 0 ∧ T.at_ = j) := by
  unfold rA
  by_cases h : T.name.size = 0
  · rw [if_pos h, Nat.testBit_or, Nat.testBit_two_pow, Bool.or_eq_true, rN_bit, decide_eq_true_eq]
    exact ⟨fun e => e.imp id (fun e => ⟨h, e⟩), fun e => e.imp id (fun e => e.2)⟩
  · rw [if_neg h, rN_bit]
    exact ⟨.inl, fun e => e.resolve_right (fun e => h e.1)⟩
theorem rootX_bit (T : Gt) (j : Nat) : (rootX T).testBit j = true ↔ (∃ a, a < T.nb ∧ (T.b a).id = j) ∨ (T.name.size = 0 ∧ T.at_ = j) ∨ (T.mg ≠ 0 ∧ T.mg = j) := by
  unfold rootX
  by_cases h : T.mg ≠ 0
  · rw [if_pos h, Nat.testBit_or, Nat.testBit_two_pow, Bool.or_eq_true, rA_bit, decide_eq_true_eq, or_assoc]
    exact ⟨fun e => e.imp id (fun e => e.imp id (fun e => ⟨h, e⟩)), fun e => e.imp id (fun e => e.imp id (fun e => e.2))⟩
  · rw [if_neg h, rA_bit]
    constructor
    · rintro (e | e)
      · exact .inl e
      · exact .inr (.inl e)
    · rintro (e | e | e)
      · exact .inl e
      · exact .inr e
      · exact absurd e.1 h
theorem RefI.rootC (h : RefI T.c T.b T.nb T.name T.at_ T.mg) {j : Nat} (hj : (rootX T).testBit j = true) : IsC T.c j := by
  rcases (rootX_bit T j).1 hj with ⟨a, h1, h2⟩ | ⟨h1, h2⟩ | ⟨h1, h2⟩
  · rw [← h2]; exact (h.bn a h1).2
  · rw [← h2]; exact h.h0 h1
  · rw [← h2]; exact h.mg.resolve_left h1
theorem rN_lt (h : RefI T.c T.b T.nb T.name T.at_ T.mg) : ∀ k, k ≤ T.nb → rN T k < 18446744073709551616
  | 0, _ => by simp [rN]
  | k + 1, hk => or_lt64 (rN_lt h k (by omega)) (pow64 _ (by have := (h.bn k (by omega)).2.1.2; omega))
theorem rA_lt (h : RefI T.c T.b T.nb T.name T.at_ T.mg) : rA T < 18446744073709551616 := by
  unfold rA
  by_cases e : T.name.size = 0
  · rw [if_pos e]
    exact or_lt64 (rN_lt h _ (Nat.le_refl _)) (pow64 _ (by have := (h.h0 e).1.2; omega))
  · rw [if_neg e]; exact rN_lt h _ (Nat.le_refl _)
theorem rootX_lt (h : RefI T.c T.b T.nb T.name T.at_ T.mg) : rootX T < 18446744073709551616 := by
  unfold rootX
  by_cases e : T.mg ≠ 0
  · rw [if_pos e]
    exact or_lt64 (rA_lt h) (pow64 _ (by have := (h.mg.resolve_left e).1.2; omega))
  · rw [if_neg e]; exact rA_lt h
end
/-- The Seqs that a collection starts from. -/
def rootsA (A : GA) : List Nat := A.refs.map Rf.seq ++ ((if A.hn.size = 0 then [A.hs] else []) ++ (if A.hm ≠ 0 then [A.hm] else []))
def rootS (nodes : List Nd) (rs : List Nat) : Nat → Bool := fun j => match nodes[j]? with
  | some b => rs.contains b.seq
  | none => false
def keptA (A : GA) : Nat → Bool := reachN A.nodes A.nodes.length (rootS A.nodes (rootsA A))
def keepI (nodes : List Nd) (s : Nat → Bool) : Nat → List Nd
  | 0 => []
  | i + 1 => keepI nodes s i ++ (match nodes[i]? with
    | some b => if s i = true then [b] else []
    | none => [])
/-- The state behind a collection. -/
def collA (A : GA) : GA := { A with nodes := keepI A.nodes (keptA A) A.nodes.length }
section
variable {J : Nat → Sl} {rt : Nat} {T : Gt}
theorem fks_keep (J : Nat → Sl) (T : Gt) {x : Nat} {s : Nat → Bool} (hc : Corr T x s) : ∀ i, i ≤ T.n → (fks T x i).map (nodeJ J T.c) = keepI (absG J T).nodes s i
  | 0, _ => by simp [fks, keepI]
  | i + 1, hi => by
    have ih := fks_keep J T hc i (by omega)
    unfold keepI
    rw [nodes_at J T (by omega : i < T.n)]
    have hci := hc i (by omega)
    cases hb : s i with
    | true =>
      rw [hb] at hci
      rw [fks_yes (by omega) hci, List.map_append, ih]; simp
    | false =>
      rw [hb] at hci
      rw [fks_no (by omega) hci, ih]; simp
/-- What the roots reach. -/
theorem GI.rootCorr (h : GI J rt T) : Corr T (rootX T) (rootS (absG J T).nodes (rootsA (absG J T))) := fun j hj => by
  unfold rootS
  rw [nodes_at J T hj]
  show _ = (rootsA (absG J T)).contains (T.c (T.o j)).seq
  have hC := h.ord.oin j hj
  have key : ∀ a, IsC T.c a → ((T.c a).seq = (T.c (T.o j)).seq ↔ a = T.o j) := fun a ha => ⟨fun e => h.tab.ci a _ ha hC e, fun e => by rw [e]⟩
  rw [Bool.eq_iff_iff, rootX_bit, List.contains_iff_mem]
  unfold rootsA
  rw [List.mem_append, List.mem_append]
  have p1 : (T.c (T.o j)).seq ∈ (absG J T).refs.map Rf.seq ↔ ∃ a, a < T.nb ∧ (T.b a).id = T.o j := by
    show (T.c (T.o j)).seq ∈ (T.bs.map (refJ T.c)).map Rf.seq ↔ _
    rw [List.map_map, List.mem_map]
    constructor
    · rintro ⟨b, hb, he⟩
      obtain ⟨a, ha, rfl⟩ := mem_bs.1 hb
      exact ⟨a, ha, (key _ (h.ref.bn a ha).2).1 he⟩
    · rintro ⟨a, ha, he⟩
      exact ⟨T.b a, mem_bs.2 ⟨a, ha, rfl⟩, (key _ (h.ref.bn a ha).2).2 he⟩
  have p2 : (T.c (T.o j)).seq ∈ (if (absG J T).hn.size = 0 then [(absG J T).hs] else []) ↔ T.name.size = 0 ∧ T.at_ = T.o j := by
    show (T.c (T.o j)).seq ∈ (if T.name.size = 0 then [(T.c T.at_).seq] else []) ↔ _
    by_cases e : T.name.size = 0
    · rw [if_pos e, List.mem_singleton]
      exact ⟨fun q => ⟨e, (key _ (h.ref.h0 e)).1 q.symm⟩, fun q => ((key _ (h.ref.h0 e)).2 q.2).symm⟩
    · rw [if_neg e]; simp [e]
  have p3 : (T.c (T.o j)).seq ∈ (if (absG J T).hm ≠ 0 then [(absG J T).hm] else []) ↔ T.mg ≠ 0 ∧ T.mg = T.o j := by
    show (T.c (T.o j)).seq ∈ (if (T.c T.mg).seq ≠ 0 then [(T.c T.mg).seq] else []) ↔ _
    by_cases e : T.mg = 0
    · have : (T.c T.mg).seq = 0 := by rw [e, h.tab.c0]; rfl
      rw [this]; simp [e]
    · have hm := h.ref.mg.resolve_left e
      have := (h.tab.cs _ hm).1
      rw [if_pos (by omega), List.mem_singleton]
      exact ⟨fun q => ⟨e, (key _ hm).1 q.symm⟩, fun q => ((key _ hm).2 q.2).symm⟩
  rw [p1, p2, p3]
theorem GI.keptCorr (h : GI J rt T) : Corr T (upN T T.n (rootX T)) (keptA (absG J T)) := by
  unfold keptA
  rw [abs_len]
  exact h.corr T.n _ _ (Nat.le_refl _) h.rootCorr
end
end Go.Proofs.Qxb6500417aGreat
