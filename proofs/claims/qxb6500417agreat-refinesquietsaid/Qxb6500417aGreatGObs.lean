/-
  OWN WORK. THE GRAPH: Aux, Seqs, Branches, Head.
-/
import Derived.Test.Qxb6500417aGreatGSnp
import Derived.Test.Qxb6500417aGreatGTab
namespace Go.Proofs.Qxb6500417aGreat
open Go.RowKit Go.PlainAid
set_option linter.unusedSimpArgs false
set_option linter.unusedVariables false

theorem II.quiet {w : World} {v : Value} {l : List Int} {w1 w2 : World} (h : II w v l w1) (ho : Only (fun _ => False) w1 w2) : II w v l w2 := ⟨h.own.keep ho (fun _ _ h => h), h.hb, h.ho.trans ho (fun _ _ h => h)⟩
theorem II.push {w : World} {v : Value} {l : List Int} {w1 w2 : World} {gg n cap : Nat} {x : Int} (h : II w v l w1) (hown : w2.ownsRow 0 3 1 (.slice (some ⟨gg, 0, none⟩) n cap) n (iV l ++ [.int .i64 x])) (hn : n = l.length + 1) (oG : Only (fun y => v.ownBlock = some y) w1 w2) (hat : v.ownBlock = some gg ∨ w1.heap.size ≤ gg) : II w (.slice (some ⟨gg, 0, none⟩) n cap) (l ++ [x]) w2 := by
  have hs := h.ho.size
  refine ⟨?_, fun y hy => ?_, h.ho.trans oG (fun y hy e => by have := h.hb y e; omega)⟩
  · unfold OwnI
    rw [iV_snoc, List.length_append, List.length_singleton, ← hn]
    exact hown
  · have : gg = y := by simpa [Value.ownBlock] using hy
    subst this
    rcases hat with e | e
    · exact h.hb _ e
    · omega
theorem II.push2 {w : World} {v v' : Value} {l : List Int} {w1 w2 : World} {o : Obj} {n : Nat} {x : Int} (h : II w v l w1) (hown : w2.ownsRow 0 3 1 v' n (iV l ++ [.int .i64 x])) (hn : n = l.length + 1) (hgrow : (w1.alloc o).grownBy w2 v.ownBlock) (hwhere : ∀ k, v'.ownBlock = some k → v.ownBlock = some k ∨ k = w1.heap.size + 1) : II w v' (l ++ [x]) w2 := by
  have hs := h.ho.size
  refine ⟨?_, fun y hy => ?_, (h.ho.alloc _).grown hgrow (fun b hb hlt => by have := h.hb b hb; omega)⟩
  · unfold OwnI
    rw [iV_snoc, List.length_append, List.length_singleton, ← hn]
    exact hown
  · rcases hwhere y hy with e | e
    · exact h.hb y e
    · omega
def rfV (r : Rf) : List Value := [.string r.name, .int .i64 (r.seq : Int)]
def rfCells (l : List Rf) : List Value := l.flatMap rfV
theorem rfCells_snoc (l : List Rf) (r : Rf) : rfCells (l ++ [r]) = rfCells l ++ [.string r.name, .int .i64 (r.seq : Int)] := by simp [rfCells, rfV]
def OwnRf (w : World) (v : Value) (l : List Rf) : Prop := w.ownsRow 0 158 2 v l.length (rfCells l)
theorem OwnRf.keep {S : Nat → Prop} {w w' : World} {v : Value} {l : List Rf} (h : OwnRf w v l) (ho : Only S w w') (hS : ∀ k, v.ownBlock = some k → ¬ S k) : OwnRf w' v l := ownsRow_keep h ho hS
theorem OwnRf.nil (w : World) : OwnRf w (.slice none 0 0) [] := World.ownsRow_nil _ _ _ _
theorem rfCells_at : ∀ (l : List Rf) (i : Nat) (h : i < l.length), (rfCells l)[i * 2]? = some (.string l[i].name) ∧ (rfCells l)[i * 2 + 1]? = some (.int .i64 (l[i].seq : Int))
  | [], i, h => by simp at h
  | f :: r, 0, h => ⟨rfl, rfl⟩
  | f :: r, i + 1, h => by
    have := rfCells_at r i (by simpa using h)
    have e : (i + 1) * 2 = i * 2 + 2 := by omega
    rw [e]
    exact this
def RefsIn (w : World) (v : Value) (l : List Rf) : Prop := ∃ a cap, v = .slice a l.length cap ∧ (0 < l.length → ∃ g, a = some ⟨g, 0, none⟩ ∧ ∀ i (h : i < l.length), w.cell? ⟨g, i * 2, none⟩ = some (.string l[i].name) ∧ w.cell? ⟨g, i * 2 + 1, none⟩ = some (.int .i64 (l[i].seq : Int)))
theorem RefsIn.keep {S : Nat → Prop} {w w' : World} {v : Value} {l : List Rf} (h : RefsIn w v l) (ho : Only S w w') (hS : ∀ k, v.ownBlock = some k → ¬ S k) : RefsIn w' v l := by
  obtain ⟨a, cap, rfl, h2⟩ := h
  refine ⟨a, cap, rfl, fun hn => ?_⟩
  obtain ⟨g, rfl, hc⟩ := h2 hn
  have hgl : g < w.heap.size := World.block_lt_of_cell? w _ (hc 0 hn).1
  have hb := ho.block g hgl (hS g rfl)
  refine ⟨g, rfl, fun i hi => ?_⟩
  obtain ⟨a1, a2⟩ := hc i hi
  exact ⟨(World.cell?_of_block hb).trans a1, (World.cell?_of_block hb).trans a2⟩
theorem OwnRf.in_ {w : World} {v : Value} {l : List Rf} (h : OwnRf w v l) : RefsIn w v l := by
  obtain ⟨a, cap, rfl⟩ := ownsRow_shape h
  refine ⟨a, cap, rfl, fun hn => ?_⟩
  rcases h.2 with ⟨he, h0⟩ | ⟨g, cap', cur, he, _⟩
  · omega
  · obtain ⟨rfl, _, _⟩ : a = some ⟨g, 0, none⟩ ∧ True ∧ cap = cap' := by simpa using he
    refine ⟨g, rfl, fun i hi => ?_⟩
    have hc := World.ownsRow.cells h (g := g) (by first | exact rfl | simp [Value.ownBlock])
    obtain ⟨a1, a2⟩ := rfCells_at l i hi
    have b1 := hc _ _ a1
    have b2 := hc _ _ a2
    rw [addr_add] at b1 b2
    exact ⟨b1, b2⟩
theorem Tryz.infoRef : (Tryz.prog.info? 158).map (fun i => (i.zero, i.size, i.bytes)) = some (some (.agg #[.string ⟨#[]⟩, .int .i64 0]), 2, 24) := by kernel_rfl
/-- Refs that were made. -/
structure RM (w : World) (v : Value) (l : List Rf) (w' : World) : Prop where
  own : OwnRf w' v l
  hb : ∀ y, v.ownBlock = some y → w.heap.size ≤ y
  ho : Only (fun _ => False) w w'
theorem RM.nil (w : World) : RM w (.slice none 0 0) [] w := ⟨OwnRf.nil w, fun y hy => by simp [Value.ownBlock] at hy, Only.refl _ _⟩
theorem RM.quiet {w : World} {v : Value} {l : List Rf} {w1 w2 : World} (h : RM w v l w1) (ho : Only (fun _ => False) w1 w2) : RM w v l w2 := ⟨h.own.keep ho (fun _ _ h => h), h.hb, h.ho.trans ho (fun _ _ h => h)⟩
theorem RM.push {w : World} {v : Value} {l : List Rf} {w1 w2 : World} {gg n cap : Nat} {f : Rf} (h : RM w v l w1) (hown : w2.ownsRow 0 158 2 (.slice (some ⟨gg, 0, none⟩) n cap) n (rfCells l ++ [.string f.name, .int .i64 (f.seq : Int)])) (hn : n = l.length + 1) (oG : Only (fun y => v.ownBlock = some y) w1 w2) (hat : v.ownBlock = some gg ∨ w1.heap.size ≤ gg) : RM w (.slice (some ⟨gg, 0, none⟩) n cap) (l ++ [f]) w2 := by
  have hs := h.ho.size
  refine ⟨?_, fun y hy => ?_, h.ho.trans oG (fun y hy e => by have := h.hb y e; omega)⟩
  · unfold OwnRf
    rw [rfCells_snoc, List.length_append, List.length_singleton, ← hn]
    exact hown
  · have : gg = y := by simpa [Value.ownBlock] using hy
    subst this
    rcases hat with e | e
    · exact h.hb _ e
    · omega
theorem RM.push2 {w : World} {v v' : Value} {l : List Rf} {w1 w2 : World} {o : Obj} {n : Nat} {f : Rf} (h : RM w v l w1) (hown : w2.ownsRow 0 158 2 v' n (rfCells l ++ [.string f.name, .int .i64 (f.seq : Int)])) (hn : n = l.length + 1) (hgrow : (w1.alloc o).grownBy w2 v.ownBlock) (hwhere : ∀ k, v'.ownBlock = some k → v.ownBlock = some k ∨ k = w1.heap.size + 1) : RM w v' (l ++ [f]) w2 := by
  have hs := h.ho.size
  refine ⟨?_, fun y hy => ?_, (h.ho.alloc _).grown hgrow (fun b hb hlt => by have := h.hb b hb; omega)⟩
  · unfold OwnRf
    rw [rfCells_snoc, List.length_append, List.length_singleton, ← hn]
    exact hown
  · rcases hwhere y hy with e | e
    · exact h.hb y e
    · omega
section
variable {w : World} {g t s d : Nat} {D B : Nat → Nat} {recs : List Rec} {J : Nat → Sl} {rt : Nat} {F : Nat → Prop} {T : Gt} {S : GA}
set_option maxRecDepth 100000 in
theorem gaux_any (h : GR w g t s d D B recs J rt F T S) :
    Calls Tryz.prog 84 #[.pointer (some ⟨g, 0, none⟩)] w fun e w' => ∃ v, e = .returned v ∧ FM w v (absG J T).aux w' := by
  have C := hide (gsnap_any h.ts h.gh T.aux h.gi.ax)
  have c0 := h.gh.aux_.1
  clear h
  go_enter Tryz.func84, Tryz.ntmps84
  go_wp2_with fail
  refine (unhide C).mono ?_
  rintro e w1 ⟨v, rfl, hM⟩
  have HM := hide hM
  obtain ⟨va, vc, rfl⟩ := ownsRow_shape hM.own
  clear C hM
  go_wp2_with fail
  go_ret
  exact ⟨_, rfl, unhide HM⟩
/-- The Seqs, ascending. -/
def seqsA (A : GA) : List Int := A.nodes.map (fun x => (x.seq : Int))
theorem seqs_take (J : Nat → Sl) (T : Gt) {i : Nat} (hi : i < T.n) : ((seqsA (absG J T)).take (i + 1)) = (seqsA (absG J T)).take i ++ [((T.c (T.o i)).seq : Int)] := by
  have hl : i < (seqsA (absG J T)).length := by simp [seqsA, abs_len, hi]
  rw [List.take_succ_eq_append_getElem hl]
  congr 2
  simp [seqsA, absG, Gt.os, nodeJ]
set_option maxRecDepth 100000 in
set_option maxHeartbeats 4000000 in
theorem gseqs_any (h : GH w g t T) (hO : OrdI T.c T.o T.n) :
    Calls Tryz.prog 71 #[.pointer (some ⟨g, 0, none⟩)] w fun e w' => ∃ v, e = .returned v ∧ II w v (seqsA (absG J T)) w' := by
  obtain ⟨i0, hi0, hz0, hz1, hz2⟩ := info_parts Tryz.infoIntU
  have H0 := hide h
  have HOr := hide hO
  have hn := hO.n40
  have hgl := h.lt
  clear h hO
  go_enter Tryz.func71, Tryz.ntmps71
  go_wp2_with fail
  go_loopw [3, 4] (fun ov iv wr => ∃ i : Nat, iv = .int .i64 i ∧ i ≤ T.n ∧ II w ov ((seqsA (absG J T)).take i) wr) (fun _ iv _ => T.n - (intOf iv).toNat)
  case atStart => exact ⟨0, rfl, by omega, by simpa using II.nil w⟩
  case round =>
    obtain ⟨i, rfl, hi, hM⟩ := hrel
    have hG := (unhide H0).quiet hM.ho
    have cn := hG.n_.1
    by_cases hil : i < T.n
    · have a1 : decide ((i : Int) < (T.n : Int)) = true := decide_eq_true (by omega)
      have a1n : decide (i < T.n) = true := decide_eq_true hil
      have hC := (unhide HOr).oin i hil
      have hcl : T.o i < 49 := by have := hC.1.2; omega
      have zj := (hG.ord i (by omega)).1
      have b2 : wr.cell? ⟨g, 1 + T.o i * 6 + 1, none⟩ = some (.int .i64 ((T.c (T.o i)).seq : Int)) := (hG.com (T.o i) 1 hcl (by omega)).1
      have a3 : (T.o i : Int) < 49 := by omega
      have a4 : (i : Int) < 48 := by omega
      have hsn := seqs_take J T hil
      have hlen : ((seqsA (absG J T)).take i).length ≤ 48 := by rw [List.length_take]; omega
      have own2 : wr.ownsRow 0 3 1 _ _ _ := hM.own
      have hws := hM.ho.size
      obtain ⟨oa, oc, rfl⟩ := ownsRow_shape hM.own
      have hgw : g < wr.heap.size := by omega
      have hne : (Value.slice oa ((seqsA (absG J T)).take i).length oc).ownBlock ≠ some g := fun e => by have := hM.hb g e; omega
      have Hsn := hide hsn
      have HM := hide hM
      clear hM hsn hC hG
      generalize (T.c (T.o i)).seq = sq at *
      generalize T.o i = oi at *
      generalize hL2 : (seqsA (absG J T)).take i = L2 at *
      clear hL2
      have zjd : wr.drew.cell? ⟨g, 295 + i, none⟩ = some (.int .i64 (oi : Int)) := by simpa using zj
      have b2d : wr.drew.cell? ⟨g, 1 + oi * 6 + 1, none⟩ = some (.int .i64 (sq : Int)) := by simpa using b2
      have oA : Only (fun _ => False) wr (wr.alloc (.cells #[.int .i64 (sq : Int)] 3)).drew := ((Only.refl (fun _ => False) wr).alloc _).drew
      have k0 := (World.cell?_of_block (oA.block g hgw (fun h => h))).trans zj
      have k2 := (World.cell?_of_block (oA.block g hgw (fun h => h))).trans b2
      have l5 : L2.length + 1 ≤ maxLen := by unfold maxLen; omega
      clear oA
      go_upto_region 5 with fail
      go_region_held_law (fun w' => w'.cell? ⟨g, 295 + i, none⟩ = some (.int .i64 (oi : Int)) ∧ w'.cell? ⟨g, 1 + oi * 6 + 1, none⟩ = some (.int .i64 (sq : Int))) (first | exact ⟨zj, b2⟩ | exact ⟨zjd, b2d⟩ | exact ⟨k0, k2⟩ | exact ⟨m0, m2⟩)
        ((refine step_append_lies _ (by rfl) _ _ _ (by rfl) 0 3 i0 _ 1 8 Tryz.underlying91 hi0 hz0 hz1 hz2 rfl (by omega) (.slice oa L2.length oc) L2.length (iV L2) (by rfl) ((own2.alloc _).drew) ⟨wr.heap.size, 0, none⟩ 1 1 [.int .i64 (sq : Int)] (by rfl) (by rfl) (World.news_of_block (cs := #[.int .i64 (sq : Int)]) (t := 3) (fr := (0, 0)) (heap_alloc_new wr _)) (by simp [Value.oneCell']) (by omega) l5 (by omega) (by simp) (wr.heap.size + 1) (by simp) ?_; intro gg cap w3 hown1 hgrow hat hlt3; have m0 := (hgrow.cell_far ⟨g, 295 + i, none⟩ (by simp; omega) (Ne.symm hne)).trans k0; have m2 := (hgrow.cell_far ⟨g, 1 + oi * 6 + 1, none⟩ (by simp; omega) (Ne.symm hne)).trans k2))
      have oG : Only (fun y => (Value.slice oa L2.length oc).ownBlock = some y) wr w3 := ((Only.refl (fun y => (Value.slice oa L2.length oc).ownBlock = some y) wr).alloc _).drew.grown hgrow (fun y hy _ => hy)
      have hM3 := (unhide HM).push hown1 rfl oG (by
        rcases hat with e | e
        · exact .inl e
        · exact .inr (by omega))
      have HM3 := hide hM3
      clear hown1 hgrow hat hlt3 m0 m2 k0 k2 zj b2 zjd b2d oG hM3 own2 HM
      go_wp2_with fail
      go_roundw
      case rel => exact ⟨i + 1, by go_num, by omega, by rw [unhide Hsn]; exact unhide HM3⟩
      case measure => simp [intOf]; omega
    · have a1 : decide ((i : Int) < (T.n : Int)) = false := decide_eq_false (by omega)
      have a1n : decide (i < T.n) = false := decide_eq_false hil
      have e2 : (seqsA (absG J T)).take i = seqsA (absG J T) := List.take_of_length_le (by simp [seqsA, abs_len]; omega)
      rw [e2] at hM
      have RR := hide hM
      clear hM e2 hG
      go_wp2_with fail
      go_ret
      exact ⟨_, rfl, unhide RR⟩
end
end Go.Proofs.Qxb6500417aGreat
