/-
  OWN WORK. THE GRAPH's MODEL: lists of commits in memory; api's FindNode, Reach.
-/
import Derived.Test.Qxb6500417aGreatGWt2
namespace Go.Proofs.Qxb6500417aGreat
open Go.RowKit Go.PlainAid
set_option linter.unusedSimpArgs false
set_option linter.unusedVariables false

def parI (x : Nd) : List Int := x.par.map Int.ofNat
/-- A commit's cells, its lists in blocks that H knows. -/
structure NdAt (H : Nat → Prop) (w : World) (g o : Nat) (x : Nd) : Prop where
  sq : w.cell? ⟨g, o, none⟩ = some (.int .i64 (x.seq : Int))
  fs : ∃ fv, w.cell? ⟨g, o + 1, none⟩ = some fv ∧ FilesIn w fv x.files ∧ ∀ y, fv.ownBlock = some y → H y
  ps : ∃ pv, w.cell? ⟨g, o + 2, none⟩ = some pv ∧ IntsIn w pv (parI x) ∧ ∀ y, pv.ownBlock = some y → H y
  ms : w.cell? ⟨g, o + 3, none⟩ = some (.string x.msg)
theorem NdAt.keep {H S : Nat → Prop} {w w' : World} {g o : Nat} {x : Nd} (h : NdAt H w g o x) (ho : Only S w w') (hg : ¬ S g) (hS : ∀ y, H y → ¬ S y) : NdAt H w' g o x := by
  have hgl : g < w.heap.size := World.block_lt_of_cell? w _ h.sq
  have hb := ho.block g hgl hg
  refine ⟨(World.cell?_of_block hb).trans h.sq, ?_, ?_, (World.cell?_of_block hb).trans h.ms⟩
  · obtain ⟨fv, a, b, c⟩ := h.fs
    exact ⟨fv, (World.cell?_of_block hb).trans a, b.keep ho (fun k hk => hS k (c k hk)), c⟩
  · obtain ⟨fv, a, b, c⟩ := h.ps
    exact ⟨fv, (World.cell?_of_block hb).trans a, b.keep ho (fun k hk => hS k (c k hk)), c⟩
theorem NdAt.mono {H H' : Nat → Prop} {w : World} {g o : Nat} {x : Nd} (h : NdAt H w g o x) (hH : ∀ y, H y → H' y) : NdAt H' w g o x := by
  refine ⟨h.sq, ?_, ?_, h.ms⟩
  · obtain ⟨fv, a, b, c⟩ := h.fs
    exact ⟨fv, a, b, fun y hy => hH y (c y hy)⟩
  · obtain ⟨fv, a, b, c⟩ := h.ps
    exact ⟨fv, a, b, fun y hy => hH y (c y hy)⟩
/-- The list lies at the slice (to be read). -/
def NodesIn (H : Nat → Prop) (w : World) (v : Value) (l : List Nd) : Prop := ∃ a cap, v = .slice a l.length cap ∧ (0 < l.length → ∃ g, a = some ⟨g, 0, none⟩ ∧ H g ∧ ∀ i (h : i < l.length), NdAt H w g (i * 4) l[i])
theorem NodesIn.keep {H S : Nat → Prop} {w w' : World} {v : Value} {l : List Nd} (h : NodesIn H w v l) (ho : Only S w w') (hS : ∀ y, H y → ¬ S y) : NodesIn H w' v l := by
  obtain ⟨a, cap, rfl, h2⟩ := h
  refine ⟨a, cap, rfl, fun hn => ?_⟩
  obtain ⟨g, rfl, hg, hc⟩ := h2 hn
  exact ⟨g, rfl, hg, fun i hi => (hc i hi).keep ho (hS g hg) hS⟩
theorem NodesIn.quiet {H : Nat → Prop} {w w' : World} {v : Value} {l : List Nd} (h : NodesIn H w v l) (ho : Only (fun _ => False) w w') : NodesIn H w' v l := h.keep ho (fun _ _ h => h)
theorem NodesIn.mono {H H' : Nat → Prop} {w : World} {v : Value} {l : List Nd} (h : NodesIn H w v l) (hH : ∀ y, H y → H' y) : NodesIn H' w v l := by
  obtain ⟨a, cap, rfl, h2⟩ := h
  refine ⟨a, cap, rfl, fun hn => ?_⟩
  obtain ⟨g, rfl, hg, hc⟩ := h2 hn
  exact ⟨g, rfl, hH g hg, fun i hi => (hc i hi).mono hH⟩
theorem NodesIn.nil (H : Nat → Prop) (w : World) : NodesIn H w (.slice none 0 0) [] := ⟨_, _, rfl, fun h => absurd h (by simp)⟩
/-- By ascending Seq. -/
def NdS (l : List Nd) : Prop := l.Pairwise (fun a b => a.seq < b.seq)
theorem NdS.uniq {l : List Nd} (h : NdS l) {i j : Nat} {a b : Nd} (hi : l[i]? = some a) (hj : l[j]? = some b) (he : a.seq = b.seq) : i = j := by
  obtain ⟨h1, rfl⟩ := List.getElem?_eq_some_iff.1 hi
  obtain ⟨h2, rfl⟩ := List.getElem?_eq_some_iff.1 hj
  have hp := List.pairwise_iff_getElem.1 h
  rcases Nat.lt_trichotomy i j with e | e | e
  · have := hp i j h1 h2 e; omega
  · exact e
  · have := hp j i h2 h1 e; omega
/-- What FindNode answers. -/
def FnP (l : List Nd) (q r : Int) : Prop := (r = -1 ∧ ∀ (j : Nat) (b : Nd), l[j]? = some b → (b.seq : Int) ≠ q) ∨ (∃ (j : Nat) (b : Nd), r = j ∧ l[j]? = some b ∧ (b.seq : Int) = q)
set_option maxRecDepth 100000 in
set_option maxHeartbeats 2000000 in
theorem afindN_any {H : Nat → Prop} {w : World} {v : Value} {l : List Nd} (h : NodesIn H w v l) (hl : l.length ≤ 1000) (q : Int) :
    Calls Tryz.prog 146 #[v, .int .i64 q] w fun e w' => ∃ r : Int, e = .returned (.int .i64 r) ∧ FnP l q r ∧ w = w' := by
  obtain ⟨a, cap, rfl, hc⟩ := h
  have Hc := hide hc
  clear hc
  go_enter Tryz.func146, Tryz.ntmps146
  go_wp2_with fail
  go_loopw [5] (fun iv wr => ∃ i : Nat, iv = .int .i64 i ∧ i ≤ l.length ∧ (∀ (j : Nat) (b : Nd), j < i → l[j]? = some b → (b.seq : Int) ≠ q) ∧ w = wr) (fun iv _ => l.length - (intOf iv).toNat)
  case atStart => exact ⟨0, rfl, by omega, fun j b hj => by omega, rfl⟩
  case round =>
    obtain ⟨i, rfl, hi, hno, rfl⟩ := hrel
    by_cases hil : i < l.length
    · obtain ⟨g, rfl, _, hcc⟩ := unhide Hc (by omega)
      have b1 : decide ((i : Int) < (l.length : Int)) = true := decide_eq_true (by omega)
      have b1n : decide (i < l.length) = true := decide_eq_true hil
      have b2 : (i : Int) < (l.length : Int) := by omega
      have c0 := (hcc i hil).sq
      have hget : l[i]? = some l[i] := List.getElem?_eq_getElem hil
      by_cases he : ((l[i].seq : Int) = q)
      · have hR : FnP l q (i : Int) := .inr ⟨i, l[i], rfl, hget, he⟩
        have HR := hide hR
        rw [he] at c0
        have e0 := eqI q
        clear hR hcc hno hget he
        go_wp2_with fail
        go_ret
        exact ⟨(i : Int), rfl, unhide HR, rfl⟩
      · have b3 : ((l[i].seq : Int) == q) = false := by simpa using he
        have hno' : ∀ (j : Nat) (b : Nd), j < i + 1 → l[j]? = some b → (b.seq : Int) ≠ q := fun j b hj hb => by
          by_cases e : j = i
          · subst e; rw [hget] at hb; cases hb; exact he
          · exact hno j b (by omega) hb
        have Hno := hide hno'
        clear hno hno' hcc hget he
        generalize l[i].seq = sq at *
        go_wp2_with fail
        go_roundw
        case rel => exact ⟨i + 1, by go_num, by omega, unhide Hno, by first | trivial | rfl⟩
        case measure => simp [intOf]; omega
    · have b1 : decide ((i : Int) < (l.length : Int)) = false := decide_eq_false (by omega)
      have b1n : decide (i < l.length) = false := decide_eq_false hil
      have hR : FnP l q (-1) := .inl ⟨rfl, fun j b hb => hno j b (by have := (List.getElem?_eq_some_iff.1 hb).1; omega) hb⟩
      have HR := hide hR
      clear hR hno
      go_wp2_with fail
      go_ret
      exact ⟨-1, rfl, unhide HR, rfl⟩
/-- A row of marks. -/
def SeenN (w : World) (g n : Nat) (s : Nat → Bool) : Prop := Has w g (tabV n (bF s)) 4
theorem SeenN.cell {w : World} {g n : Nat} {s : Nat → Bool} (h : SeenN w g n s) (i : Nat) (hi : i < n) : w.cell? ⟨g, i, none⟩ = some (.bool (s i)) ∧ w.frozen? ⟨g, i, none⟩ = false := by
  refine ⟨?_, Has.free h i⟩
  rw [Has.cell h, tabV_get _ _ _ hi]; rfl
theorem SeenN.congr {w : World} {g n : Nat} {s s' : Nat → Bool} (h : SeenN w g n s) (he : ∀ i, i < n → s i = s' i) : SeenN w g n s' := by
  unfold SeenN at h ⊢
  rw [← tabV_congr n (f := bF s)]
  · exact h
  · intro i hi; unfold bF; rw [he i hi]
theorem SeenN.set {w : World} {g n : Nat} {s : Nat → Bool} (h : SeenN w g n s) (i : Nat) : SeenN (w.setCell ⟨g, i, none⟩ (.bool true)) g n (setB s i) := by
  have := Has.setCell h i (.bool true)
  rw [tabV_set] at this
  unfold SeenN
  rw [tabV_congr n (g := fun j => if j = i then Value.bool true else bF s j)]
  · exact this
  · intro j hj
    unfold bF setB
    by_cases e : j = i
    · rw [if_pos e, if_pos e]
    · rw [if_neg e, if_neg e]
/-- The nodes that these Seqs name. -/
def rootI (nodes : List Nd) (rs : List Int) : Nat → Bool := fun j => match nodes[j]? with
  | some b => rs.any (fun q => decide ((b.seq : Int) = q))
  | none => false
theorem rootI_no {nodes : List Nd} {rs : List Int} {k : Nat} (hk : k < rs.length) (hno : ∀ (j : Nat) (b : Nd), nodes[j]? = some b → (b.seq : Int) ≠ rs[k]) : ∀ j, j < nodes.length → rootI nodes (rs.take k) j = rootI nodes (rs.take (k + 1)) j := fun j hj => by
  unfold rootI
  rw [List.getElem?_eq_getElem hj, List.take_add_one, List.getElem?_eq_getElem hk]
  simp only [Option.toList, List.any_append, List.any_cons, List.any_nil, Bool.or_false]
  rw [decide_eq_false (hno j _ (List.getElem?_eq_getElem hj)), Bool.or_false]
theorem rootI_yes {nodes : List Nd} (hS : NdS nodes) {rs : List Int} {k j0 : Nat} {b0 : Nd} (hk : k < rs.length) (h0 : nodes[j0]? = some b0) (he : (b0.seq : Int) = rs[k]) : ∀ j, j < nodes.length → setB (rootI nodes (rs.take k)) j0 j = rootI nodes (rs.take (k + 1)) j := fun j hj => by
  unfold setB rootI
  rw [List.getElem?_eq_getElem hj, List.take_add_one, List.getElem?_eq_getElem hk]
  simp only [Option.toList, List.any_append, List.any_cons, List.any_nil, Bool.or_false]
  by_cases e : j = j0
  · subst e
    rw [if_pos rfl]
    rw [List.getElem?_eq_getElem hj] at h0
    cases h0
    rw [decide_eq_true he]; simp
  · rw [if_neg e, decide_eq_false, Bool.or_false]
    intro hh
    exact e (hS.uniq (List.getElem?_eq_getElem hj) h0 (by omega))
/-- Parents are marked one by one. -/
def parM (nodes : List Nd) (s : Nat → Bool) (ps : List Nat) : Nat → Bool := fun j => s j || (match nodes[j]? with
  | some b => ps.contains b.seq
  | none => false)
theorem parM_nil (nodes : List Nd) (s : Nat → Bool) (j : Nat) : parM nodes s [] j = s j := by
  unfold parM
  cases nodes[j]? <;> simp
theorem parM_no {nodes : List Nd} {s : Nat → Bool} {ps : List Nat} {k : Nat} (hk : k < ps.length) (hno : ∀ (j : Nat) (b : Nd), nodes[j]? = some b → (b.seq : Int) ≠ (ps[k] : Int)) : ∀ j, j < nodes.length → parM nodes s (ps.take k) j = parM nodes s (ps.take (k + 1)) j := fun j hj => by
  unfold parM
  rw [List.getElem?_eq_getElem hj, List.take_add_one, List.getElem?_eq_getElem hk]
  congr 1
  have := hno j _ (List.getElem?_eq_getElem hj)
  rw [Bool.eq_iff_iff]
  simp only [List.contains_iff_mem, Option.toList, List.mem_append, List.mem_singleton]
  exact ⟨.inl, fun h => h.resolve_right (fun e => this (by rw [e]))⟩
theorem parM_yes {nodes : List Nd} (hS : NdS nodes) {s : Nat → Bool} {ps : List Nat} {k j0 : Nat} {b0 : Nd} (hk : k < ps.length) (h0 : nodes[j0]? = some b0) (he : (b0.seq : Int) = (ps[k] : Int)) : ∀ j, j < nodes.length → setB (parM nodes s (ps.take k)) j0 j = parM nodes s (ps.take (k + 1)) j := fun j hj => by
  unfold setB parM
  rw [List.getElem?_eq_getElem hj, List.take_add_one, List.getElem?_eq_getElem hk]
  by_cases e : j = j0
  · subst e
    rw [if_pos rfl]
    rw [List.getElem?_eq_getElem hj] at h0
    cases h0
    symm
    rw [Bool.or_eq_true]
    right
    rw [List.contains_iff_mem]
    simp only [Option.toList, List.mem_append, List.mem_singleton]
    right; omega
  · rw [if_neg e]
    congr 1
    rw [Bool.eq_iff_iff]
    simp only [List.contains_iff_mem, Option.toList, List.mem_append, List.mem_singleton]
    exact ⟨.inl, fun h => h.resolve_right (fun q => e (hS.uniq (List.getElem?_eq_getElem hj) h0 (by omega)))⟩
theorem parM_all {nodes : List Nd} {s : Nat → Bool} {i : Nat} {x : Nd} (hx : nodes[i]? = some x) (hs : s i = true) : ∀ j, parM nodes s x.par j = seenS nodes s i j := fun j => by
  unfold parM seenS inPar
  rw [if_pos hs, hx]
  cases nodes[j]? <;> rfl
end Go.Proofs.Qxb6500417aGreat
