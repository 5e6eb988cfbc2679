/-
  OWN WORK. THE GRAPH: its tables and the bytes of its objects, plain.
-/
import Derived.Test.Qxb6500417aGreatTPutW
import Derived.Test.Qxb6500417aGreatGApi
namespace Go.Proofs.Qxb6500417aGreat
open Go.RowKit Go.PlainAid
set_option linter.unusedSimpArgs false
set_option linter.unusedVariables false

/-- A row of the table of commits. -/
structure Cr where
  used : Bool
  seq : Nat
  tree : Nat
  np : Nat
  p0 : Nat
  p1 : Nat
def Cr.zero : Cr := ⟨false, 0, 0, 0, 0, 0⟩
/-- A row of the branches. -/
structure Br where
  name : ByteArray
  id : Nat
def Br.zero : Br := ⟨⟨#[]⟩, 0⟩
/-- The running tables. -/
structure Gt where
  c : Nat → Cr
  o : Nat → Nat
  n : Nat
  b : Nat → Br
  nb : Nat
  name : ByteArray
  at_ : Nat
  mg : Nat
  aux : Nat
  nx : Nat
def byL (s : ByteArray) : List Nat := s.data.toList.map UInt8.toNat
def bsOf (l : List Nat) : ByteArray := ⟨(l.map UInt8.ofNat).toArray⟩
theorem byL_len (s : ByteArray) : (byL s).length = s.size := by simp [byL]
theorem byL_lt (s : ByteArray) : ∀ x ∈ byL s, x < 256 := by
  intro x hx
  obtain ⟨c, _, rfl⟩ := List.mem_map.1 hx
  exact c.toNat_lt
theorem bsOf_byL (s : ByteArray) : bsOf (byL s) = s := by
  apply ls_inj
  simp [ls, bsOf, byL, Function.comp_def]
theorem byL_bsOf {l : List Nat} (h : ∀ x ∈ l, x < 256) : byL (bsOf l) = l := by
  simp only [byL, bsOf, List.map_map]
  conv => rhs; rw [← List.map_id l]
  apply List.map_congr_left
  intro x hx
  have := h x hx
  simp [Function.comp_def, Nat.mod_eq_of_lt this]
theorem byL_inj {a b : ByteArray} (h : byL a = byL b) : a = b := by rw [← bsOf_byL a, ← bsOf_byL b, h]
theorem bsOf_size (l : List Nat) : (bsOf l).size = l.length := by simp [bsOf, ByteArray.size]
def seq8 (n : Nat) : List Nat := (List.range 8).map (fun i => n / 256 ^ i % 256)
theorem seq8_eq (n : Nat) : seq8 n = [n % 256, n / 256 % 256, n / 65536 % 256, n / 16777216 % 256, n / 4294967296 % 256, n / 1099511627776 % 256, n / 281474976710656 % 256, n / 72057594037927936 % 256] := by
  simp [seq8, List.range_succ]
theorem seq8_len (n : Nat) : (seq8 n).length = 8 := by simp [seq8]
theorem seq8_lt (n : Nat) : ∀ x ∈ seq8 n, x < 256 := by
  intro x hx
  obtain ⟨i, _, rfl⟩ := List.mem_map.1 hx
  exact Nat.mod_lt _ (by omega)
theorem seq8_inj {a b : Nat} (ha : a < 18446744073709551616) (hb : b < 18446744073709551616) (h : seq8 a = seq8 b) : a = b := by
  rw [seq8_eq, seq8_eq] at h
  simp only [List.cons.injEq, and_true] at h
  obtain ⟨h0, h1, h2, h3, h4, h5, h6, h7⟩ := h
  omega
def Cr.pars (r : Cr) : List Nat := if r.np = 0 then [] else if r.np = 1 then [r.p0] else [r.p0, r.p1]
theorem Cr.pars_len (r : Cr) (h : r.np ≤ 2) : r.pars.length = r.np := by
  unfold Cr.pars
  split
  · simp; omega
  · split
    · simp; omega
    · simp; omega
structure Cr.Wf (r : Cr) : Prop where
  us : r.used = true
  np : r.np ≤ 2
  z1 : r.np ≤ 1 → r.p1 = 0
  z0 : r.np = 0 → r.p0 = 0
  tr : r.tree ≤ 48
  q0 : r.p0 ≤ 48
  q1 : r.p1 ≤ 48
  sq : r.seq < 4611686018427387904
def cdat (r : Cr) (msg : ByteArray) : List Nat := seq8 r.seq ++ r.tree :: r.np :: (r.pars ++ byL msg)
theorem pars_le {r : Cr} (h : r.Wf) : ∀ p ∈ r.pars, p ≤ 48 := by
  intro p hp
  unfold Cr.pars at hp
  have := h.q0
  have := h.q1
  split at hp
  · simp at hp
  · split at hp
    · simp at hp; omega
    · simp at hp; omega
theorem cdat_len (r : Cr) (h : r.np ≤ 2) (msg : ByteArray) : (cdat r msg).length = 10 + r.np + msg.size := by
  unfold cdat
  simp [seq8_len, byL_len, Cr.pars_len r h]
  omega
theorem cdat_lt {r : Cr} (h : r.Wf) (msg : ByteArray) : ∀ x ∈ cdat r msg, x < 256 := by
  intro x hx
  unfold cdat at hx
  have h1 := h.tr
  have h2 := h.np
  simp only [List.mem_append, List.mem_cons] at hx
  rcases hx with hx | hx | hx | hx | hx
  · exact seq8_lt _ x hx
  · omega
  · omega
  · have := pars_le h x hx; omega
  · exact byL_lt _ x hx
theorem pars_inj {r s : Cr} (hr : r.Wf) (hs : s.Wf) (hn : r.np = s.np) (h : r.pars = s.pars) : r.p0 = s.p0 ∧ r.p1 = s.p1 := by
  unfold Cr.pars at h
  rw [hn] at h
  have a1 := hr.z0
  have a2 := hr.z1
  have a3 := hs.z0
  have a4 := hs.z1
  rw [hn] at a1 a2
  by_cases h0 : s.np = 0
  · exact ⟨(a1 h0).trans (a3 h0).symm, (a2 (by omega)).trans (a4 (by omega)).symm⟩
  · rw [if_neg h0, if_neg h0] at h
    by_cases h1 : s.np = 1
    · rw [if_pos h1, if_pos h1] at h
      exact ⟨by simpa using h, (a2 (by omega)).trans (a4 (by omega)).symm⟩
    · rw [if_neg h1, if_neg h1] at h
      simpa using h
theorem cdat_inj {r s : Cr} (hr : r.Wf) (hs : s.Wf) {m k : ByteArray} (h : cdat r m = cdat s k) : r = s ∧ m = k := by
  unfold cdat at h
  obtain ⟨h1, h2⟩ := List.append_inj h (by rw [seq8_len, seq8_len])
  have e1 := seq8_inj (by have := hr.sq; omega) (by have := hs.sq; omega) h1
  simp only [List.cons.injEq] at h2
  obtain ⟨e2, e3, h3⟩ := h2
  obtain ⟨h4, h5⟩ := List.append_inj h3 (by rw [r.pars_len hr.np, s.pars_len hs.np, e3])
  obtain ⟨e4, e5⟩ := pars_inj hr hs e3 h4
  have u1 := hr.us
  have u2 := hs.us
  obtain ⟨ru, rq, rt, rn, r0, r1⟩ := r
  obtain ⟨su, sq, st, sn, s0, s1⟩ := s
  simp only at e1 e2 e3 e4 e5 u1 u2
  subst e1 e2 e3 e4 e5 u1 u2
  exact ⟨rfl, byL_inj h5⟩
/-- The message of a commit object. -/
def msgOf (r : Cr) (dat : List Nat) : ByteArray := bsOf (dat.drop (10 + r.np))
theorem msgOf_cdat {r : Cr} (h : r.np ≤ 2) (msg : ByteArray) : msgOf r (cdat r msg) = msg := by
  unfold msgOf cdat
  have e : seq8 r.seq ++ r.tree :: r.np :: (r.pars ++ byL msg) = (seq8 r.seq ++ r.tree :: r.np :: r.pars) ++ byL msg := by simp
  rw [e, List.drop_left' (by simp [seq8_len, Cr.pars_len r h]; omega), bsOf_byL]
def nameB (s : ByteArray) : List Nat := s.size :: byL s
theorem nameB_len (s : ByteArray) : (nameB s).length = s.size + 1 := by simp [nameB, byL_len]
def bdat (b : Br) : List Nat := nameB b.name ++ [b.id]
def Gt.bs (T : Gt) : List Br := (List.range T.nb).map T.b
def Gt.os (T : Gt) : List Nat := (List.range T.n).map T.o
theorem bs_len (T : Gt) : T.bs.length = T.nb := by simp [Gt.bs]
theorem os_len (T : Gt) : T.os.length = T.n := by simp [Gt.os]
def rdat (T : Gt) : List Nat := seq8 T.nx ++ T.aux :: (nameB T.name ++ T.at_ :: T.mg :: T.nb :: T.bs.flatMap bdat)
def goodN (s : ByteArray) : Bool := decide (1 ≤ s.size ∧ s.size ≤ 6) && (ls s).all (fun c => (decide (97 ≤ c.toNat) && decide (c.toNat ≤ 122)) || (decide (48 ≤ c.toNat) && decide (c.toNat ≤ 57)))
theorem goodN_size {s : ByteArray} (h : goodN s = true) : 1 ≤ s.size ∧ s.size ≤ 6 := by
  unfold goodN at h
  simp only [Bool.and_eq_true, decide_eq_true_eq] at h
  exact h.1
theorem bdat_len (l : List Br) (h : ∀ b ∈ l, b.name.size ≤ 6) : (l.flatMap bdat).length ≤ l.length * 8 := by
  induction l with
  | nil => simp
  | cons b r ih =>
    have := h b (by simp)
    have := ih (fun x hx => h x (by simp [hx]))
    simp only [List.flatMap_cons, List.length_append, List.length_cons, bdat, nameB_len, List.length_nil]
    omega
theorem rdat_len (T : Gt) (h4 : T.nb ≤ 4) (hb : ∀ b ∈ T.bs, b.name.size ≤ 6) (hn : T.name.size ≤ 6) : (rdat T).length ≤ 51 := by
  unfold rdat
  have := bdat_len T.bs hb
  rw [bs_len] at this
  simp only [List.length_append, List.length_cons, seq8_len, nameB_len]
  omega
theorem nameB_lt (s : ByteArray) (h : s.size ≤ 6) : ∀ x ∈ nameB s, x < 256 := by
  intro x hx
  unfold nameB at hx
  rcases List.mem_cons.1 hx with e | e
  · omega
  · exact byL_lt s x e
theorem nameB_inj {a b : ByteArray} {A B : List Nat} (h : nameB a ++ A = nameB b ++ B) : a = b ∧ A = B := by
  unfold nameB at h
  simp only [List.cons_append, List.cons.injEq] at h
  obtain ⟨h1, h2⟩ := List.append_inj h.2 (by rw [byL_len, byL_len, h.1])
  exact ⟨byL_inj h1, h2⟩
theorem bdats_inj : ∀ {a b : List Br}, a.flatMap bdat = b.flatMap bdat → a = b
  | [], [], _ => rfl
  | x :: a, [], h => by simp [bdat, nameB] at h
  | [], x :: a, h => by simp [bdat, nameB] at h
  | x :: a, y :: b, h => by
    simp only [List.flatMap_cons, bdat, List.append_assoc] at h
    obtain ⟨h1, h2⟩ := nameB_inj h
    simp only [List.cons_append, List.nil_append, List.cons.injEq] at h2
    obtain ⟨xn, xi⟩ := x
    obtain ⟨yn, yi⟩ := y
    simp only at h1 h2
    rw [h1, h2.1, bdats_inj h2.2]
theorem rdat_lt (T : Gt) (h4 : T.nb ≤ 4) (hb : ∀ b ∈ T.bs, b.name.size ≤ 6 ∧ b.id ≤ 48) (hn : T.name.size ≤ 6) (ha : T.aux ≤ 48) (hm : T.mg ≤ 48) (ht : T.at_ ≤ 48) : ∀ x ∈ rdat T, x < 256 := by
  intro x hx
  unfold rdat at hx
  simp only [List.mem_append, List.mem_cons, List.mem_flatMap] at hx
  rcases hx with hx | hx | hx | hx | hx | hx | ⟨b, hb1, hx⟩
  · exact seq8_lt _ x hx
  · omega
  · exact nameB_lt _ hn x hx
  · omega
  · omega
  · omega
  · unfold bdat at hx
    have := hb b hb1
    rcases List.mem_append.1 hx with e | e
    · exact nameB_lt _ this.1 x e
    · simp at e; omega
end Go.Proofs.Qxb6500417aGreat
