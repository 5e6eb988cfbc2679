/-
  OWN WORK. THE INDEX: lists of files; api's Find, CopyFiles, With, Without.
-/
import Derived.Test.Qxb6500416aIFile
namespace Go.Proofs.Qxb6500416a
open Go.RowKit Go.PlainAid
set_option linter.unusedSimpArgs false
set_option linter.unusedVariables false

structure Fl where
  path : ByteArray
  data : ByteArray
  mode : Int
def flV (f : Fl) : List Value := [.string f.path, .string f.data, .int .i64 f.mode]
def flCells : List Fl → List Value
  | [] => []
  | f :: r => flV f ++ flCells r
theorem flCells_snoc (l : List Fl) (f : Fl) : flCells (l ++ [f]) = flCells l ++ [.string f.path, .string f.data, .int .i64 f.mode] := by
  induction l with
  | nil => rfl
  | cons a r ih => simp [flCells, ih, flV]
theorem flCells_len (l : List Fl) : (flCells l).length = l.length * 3 := by
  induction l with
  | nil => rfl
  | cons a r ih => simp [flCells, ih, flV]; omega
theorem flCells_at : ∀ (l : List Fl) (i : Nat) (h : i < l.length), (flCells l)[i * 3]? = some (.string l[i].path) ∧ (flCells l)[i * 3 + 1]? = some (.string l[i].data) ∧ (flCells l)[i * 3 + 2]? = some (.int .i64 l[i].mode)
  | [], i, h => by simp at h
  | f :: r, 0, h => ⟨rfl, rfl, rfl⟩
  | f :: r, i + 1, h => by
    have := flCells_at r i (by simpa using h)
    have e : (i + 1) * 3 = i * 3 + 3 := by omega
    rw [e]
    exact this

/-- The list lies at the slice (to be read). -/
def FilesIn (w : World) (v : Value) (l : List Fl) : Prop := ∃ a cap, v = .slice a l.length cap ∧ (0 < l.length → ∃ g, a = some ⟨g, 0, none⟩ ∧ ∀ i (h : i < l.length), w.cell? ⟨g, i * 3, none⟩ = some (.string l[i].path) ∧ w.cell? ⟨g, i * 3 + 1, none⟩ = some (.string l[i].data) ∧ w.cell? ⟨g, i * 3 + 2, none⟩ = some (.int .i64 l[i].mode))
/-- The list lies in an array of its own. -/
def OwnF (w : World) (v : Value) (l : List Fl) : Prop := w.ownsRow 0 60 3 v l.length (flCells l)

theorem FilesIn.keep {S : Nat → Prop} {w w' : World} {v : Value} {l : List Fl} (h : FilesIn w v l) (ho : Only S w w') (hS : ∀ k, v.ownBlock = some k → ¬ S k) : FilesIn w' v l := by
  obtain ⟨a, cap, rfl, h2⟩ := h
  refine ⟨a, cap, rfl, fun hn => ?_⟩
  obtain ⟨g, rfl, hc⟩ := h2 hn
  have hgl : g < w.heap.size := World.block_lt_of_cell? w _ (hc 0 hn).1
  have hb := ho.block g hgl (hS g rfl)
  refine ⟨g, rfl, fun i hi => ?_⟩
  obtain ⟨a1, a2, a3⟩ := hc i hi
  exact ⟨(World.cell?_of_block hb).trans a1, (World.cell?_of_block hb).trans a2, (World.cell?_of_block hb).trans a3⟩
theorem FilesIn.lt {w : World} {v : Value} {l : List Fl} (h : FilesIn w v l) (hn : 0 < l.length) : ∃ g cap, v = .slice (some ⟨g, 0, none⟩) l.length cap ∧ g < w.heap.size := by
  obtain ⟨a, cap, rfl, h2⟩ := h
  obtain ⟨g, rfl, hc⟩ := h2 hn
  exact ⟨g, cap, rfl, World.block_lt_of_cell? w _ (hc 0 hn).1⟩
theorem OwnF.keep {S : Nat → Prop} {w w' : World} {v : Value} {l : List Fl} (h : OwnF w v l) (ho : Only S w w') (hS : ∀ k, v.ownBlock = some k → ¬ S k) : OwnF w' v l := ownsRow_keep h ho hS
theorem OwnF.nil (w : World) : OwnF w (.slice none 0 0) [] := World.ownsRow_nil _ _ _ _
theorem OwnF.in_ {w : World} {v : Value} {l : List Fl} (h : OwnF w v l) : FilesIn w v l := by
  obtain ⟨a, cap, rfl⟩ := ownsRow_shape h
  refine ⟨a, cap, rfl, fun hn => ?_⟩
  rcases h.2 with ⟨he, h0⟩ | ⟨g, cap', cur, he, _⟩
  · omega
  · obtain ⟨rfl, _, _⟩ : a = some ⟨g, 0, none⟩ ∧ True ∧ cap = cap' := by simpa using he
    refine ⟨g, rfl, fun i hi => ?_⟩
    have hc := World.ownsRow.cells h (g := g) (by first | exact rfl | simp [Value.ownBlock])
    obtain ⟨a1, a2, a3⟩ := flCells_at l i hi
    have b1 := hc _ _ a1
    have b2 := hc _ _ a2
    have b3 := hc _ _ a3
    rw [addr_add] at b1 b2 b3
    exact ⟨b1, b2, b3⟩

theorem Try.infoFile : (Try.prog.info? 60).map (fun i => (i.zero, i.size, i.bytes)) = some (some (.agg #[.string ⟨#[]⟩, .string ⟨#[]⟩, .int .i64 0]), 3, 40) := by kernel_rfl

def findI (l : List Fl) (p : ByteArray) : Int := match l.findIdx? (fun f => decide (f.path = p)) with | some i => i | none => -1
theorem findI_at {l : List Fl} {p : ByteArray} {i : Nat} (hi : i < l.length) (hp : l[i].path = p) (hb : ∀ j (hj : j < l.length), j < i → l[j].path ≠ p) : findI l p = i := by
  unfold findI
  have : l.findIdx? (fun f => decide (f.path = p)) = some i := by
    rw [List.findIdx?_eq_some_iff_getElem]
    refine ⟨hi, by simpa using hp, fun j hj => ?_⟩
    simpa using hb j (by omega) hj
  rw [this]
theorem findI_no {l : List Fl} {p : ByteArray} (hb : ∀ j (hj : j < l.length), l[j].path ≠ p) : findI l p = -1 := by
  unfold findI
  have : l.findIdx? (fun f => decide (f.path = p)) = none := by
    rw [List.findIdx?_eq_none_iff]
    intro f hf
    obtain ⟨j, hj, rfl⟩ := List.getElem_of_mem hf
    simpa using hb j hj
  rw [this]

theorem str_ne {a b : ByteArray} (h : a ≠ b) : (a.toList == b.toList) = false := by
  rw [ls_eq_iff, decide_eq_false (fun e => h (ls_inj e))]
theorem str_eq (a : ByteArray) : (a.toList == a.toList) = true := by simp

set_option maxRecDepth 100000 in
set_option maxHeartbeats 1000000 in
theorem copyFiles_any {w : World} (v : Value) (l : List Fl) (h : FilesIn w v l) (hlen : l.length ≤ 1000) :
    Calls Try.prog 30 #[v] w fun e w' => ∃ v', e = .returned v' ∧ OwnF w' v' l ∧ (∀ y, v'.ownBlock = some y → w.heap.size ≤ y) ∧ Only (fun _ => False) w w' := by
  obtain ⟨a, cap, rfl, hc⟩ := h
  obtain ⟨i0, hi0, hz0, hz1, hz2⟩ := info_parts Try.infoFile
  have Hc := hide hc
  have H0 := hide (OwnF.nil w)
  clear hc
  go_enter Try.func30, Try.ntmps30
  go_wp2_with fail
  go_loopw [3, 4] (fun ov iv wr => ∃ i : Nat, i ≤ l.length ∧ iv = .int .i64 i ∧ OwnF wr ov (l.take i) ∧ (∀ y, ov.ownBlock = some y → w.heap.size ≤ y) ∧ Only (fun _ => False) w wr) (fun _ iv _ => l.length - (intOf iv).toNat)
  case atStart => exact ⟨0, by omega, rfl, unhide H0, fun y hy => by simp [Value.ownBlock] at hy, Only.refl _ _⟩
  case round =>
    clear H0
    obtain ⟨i, hi, rfl, hown, hb, ho⟩ := hrel
    by_cases hil : i < l.length
    · obtain ⟨g, rfl, hcell⟩ := unhide Hc (by omega)
      obtain ⟨c0, c1, c2⟩ := hcell i hil
      have hgl : g < w.heap.size := World.block_lt_of_cell? w _ c0
      have hbk := ho.block g hgl (fun h => h)
      rw [← World.cell?_of_block hbk] at c0 c1 c2
      have a1 : decide ((i : Int) < (l.length : Int)) = true := by simp; omega
      have a2 : (i : Int) < (l.length : Int) := by omega
      have hsn : flCells (l.take i) ++ [.string l[i].path, .string l[i].data, .int .i64 l[i].mode] = flCells (l.take (i + 1)) := by
        rw [List.take_succ_eq_append_getElem hil, flCells_snoc]
      have hlt : (l.take i).length = i := by rw [List.length_take]; omega
      have hlt' : (l.take (i + 1)).length = i + 1 := by rw [List.length_take]; omega
      unfold OwnF at hown
      rw [hlt] at hown
      have Hb := hide hb
      have Hsn := hide hsn
      have Hlt' := hide hlt'
      have hws := ho.size
      clear hb hsn hlt hlt' hcell hbk
      generalize l[i].path = q0 at *
      generalize l[i].data = q1 at *
      generalize l[i].mode = q2 at *
      generalize flCells (l.take i) = xs at *
      have hgw : g < wr.heap.size := by omega
      go_wp2_with (at_builtin; refine wpList_append2 _ rfl _ _ 34 rfl 60 i0 _ 3 40 Try.underlying34 hi0 hz0 hz1 hz2 rfl (by decide) _ _ _ rfl (hown.alloc _) ⟨wr.heap.size, 0, none⟩ 1 1 [.string q0, .string q1, .int .i64 q2] rfl rfl ?c1 ?c2 ?c3 ?c4 ?_)
      try (case c1 => exact news_ok _ _ _ _ rfl)
      case c2 => intro u hu; simp at hu; rcases hu with rfl | rfl | rfl <;> rfl
      case c3 => unfold maxLen; omega
      case c4 => omega
      intro v' w4 hown' hgrow hwhere
      have o4 : Only (fun _ => False) w w4 := (ho.alloc _).grown hgrow (fun b hb hlt => by have := unhide Hb b hb; omega)
      rw [unhide Hsn] at hown'
      have Hw := hide hwhere
      have Ho := hide hown'
      clear hwhere hown'
      go_wp2_with fail
      go_roundw
      case rel =>
        refine ⟨i + 1, by omega, by go_num, ?_, ?_, o4⟩
        · unfold OwnF
          rw [unhide Hlt']
          exact unhide Ho
        · intro b hb'
          rcases unhide Hw b hb' with e | e
          · exact unhide Hb b e
          · try simp at e
            omega
      case measure => simp [intOf]; omega
    · obtain rfl : i = l.length := by omega
      rw [List.take_length] at hown
      have Ho := hide hown
      have Hb := hide hb
      have a1 : decide ((l.length : Int) < (l.length : Int)) = false := by simp
      clear hown hb
      go_wp2_with fail
      go_ret
      exact ⟨_, rfl, unhide Ho, unhide Hb, ho⟩
end Go.Proofs.Qxb6500416a
