/-
  OWN WORK. THE LAW OF DIFF: CopyPatch, SamePatch.
-/
import Derived.Test.Qxb6500416aDL1
namespace Go.Proofs.Qxb6500416a
open Go.RowKit Go.PlainAid
set_option linter.unusedSimpArgs false
set_option linter.unusedVariables false

theorem hvc_set0 : ∀ (l : List HV) (i : Nat) (h : i < l.length) (a : Int), (hvCells l).set (i * 3) (.int .i64 a) = hvCells (l.set i ⟨a, l[i].dv, l[i].iv⟩)
  | [], i, h, _ => by simp at h
  | x :: r, 0, h, a => rfl
  | x :: r, i + 1, h, a => by
    have ih := hvc_set0 r i (by simpa using h) a
    have e : (i + 1) * 3 = i * 3 + 1 + 1 + 1 := by omega
    rw [e]
    simp only [hvCells, List.cons_append, List.nil_append, List.set_cons_succ, List.getElem_cons_succ]
    rw [ih]
theorem hvc_set1 : ∀ (l : List HV) (i : Nat) (h : i < l.length) (v : Value), (hvCells l).set (i * 3 + 1) v = hvCells (l.set i ⟨l[i].at_, v, l[i].iv⟩)
  | [], i, h, _ => by simp at h
  | x :: r, 0, h, a => rfl
  | x :: r, i + 1, h, a => by
    have ih := hvc_set1 r i (by simpa using h) a
    have e : (i + 1) * 3 + 1 = i * 3 + 1 + 1 + 1 + 1 := by omega
    rw [e]
    simp only [hvCells, List.cons_append, List.nil_append, List.set_cons_succ, List.getElem_cons_succ]
    rw [ih]
theorem hvc_set2 : ∀ (l : List HV) (i : Nat) (h : i < l.length) (v : Value), (hvCells l).set (i * 3 + 2) v = hvCells (l.set i ⟨l[i].at_, l[i].dv, v⟩)
  | [], i, h, _ => by simp at h
  | x :: r, 0, h, a => rfl
  | x :: r, i + 1, h, a => by
    have ih := hvc_set2 r i (by simpa using h) a
    have e : (i + 1) * 3 + 2 = i * 3 + 2 + 1 + 1 + 1 := by omega
    rw [e]
    simp only [hvCells, List.cons_append, List.nil_append, List.set_cons_succ, List.getElem_cons_succ]
    rw [ih]
def hvA (l : List HV) : Array Value := (hvCells l).toArray
theorem hvA_size (l : List HV) : (hvA l).size = l.length * 3 := by simp [hvA, hvCells_len]
theorem hvA_set0 (l : List HV) (i : Nat) (h : i < l.length) (a : Int) : (hvA l).setIfInBounds (i * 3) (.int .i64 a) = hvA (l.set i ⟨a, l[i].dv, l[i].iv⟩) := by unfold hvA; rw [← hvc_set0 l i h a]; simp
theorem hvA_set1 (l : List HV) (i : Nat) (h : i < l.length) (v : Value) : (hvA l).setIfInBounds (i * 3 + 1) v = hvA (l.set i ⟨l[i].at_, v, l[i].iv⟩) := by unfold hvA; rw [← hvc_set1 l i h v]; simp
theorem hvA_set2 (l : List HV) (i : Nat) (h : i < l.length) (v : Value) : (hvA l).setIfInBounds (i * 3 + 2) v = hvA (l.set i ⟨l[i].at_, l[i].dv, v⟩) := by unfold hvA; rw [← hvc_set2 l i h v]; simp
theorem hvA_get (l : List HV) (i : Nat) (h : i < l.length) : (hvA l)[i * 3]? = some (.int .i64 l[i].at_) ∧ (hvA l)[i * 3 + 1]? = some l[i].dv ∧ (hvA l)[i * 3 + 2]? = some l[i].iv := by
  have := hvCells_at l i h
  simpa [hvA] using this
/-- Three cells of one hunk. -/
theorem Has.hunk {w : World} {g : Nat} {l : List HV} (h : Has w g (hvA l) 62) (i : Nat) (hi : i < l.length) (a : Int) (d n : Value) : Has (((w.setCell ⟨g, i * 3, none⟩ (.int .i64 a)).setCell ⟨g, i * 3 + 1, none⟩ d).setCell ⟨g, i * 3 + 2, none⟩ n) g (hvA (l.set i ⟨a, d, n⟩)) 62 := by
  have h1 := h.setCell (i * 3) (.int .i64 a)
  rw [hvA_set0 l i hi] at h1
  have h2 := h1.setCell (i * 3 + 1) d
  rw [hvA_set1 _ i (by simpa using hi)] at h2
  have h3 := h2.setCell (i * 3 + 2) n
  rw [hvA_set2 _ i (by simpa using hi)] at h3
  simpa using h3
def hv0 : HV := ⟨0, .slice none 0 0, .slice none 0 0⟩
theorem drun_make_hunks (w : World) (n : Nat) (hn : n ≤ 1000000) :
    (Instr.makeSlice 33 (.int .i64 n) (.int .i64 n)).run Try.prog w = .ok (.slice (some ⟨w.heap.size, 0, none⟩) n n) (w.alloc (.cells (hvA (List.replicate n hv0)) 62)) := by
  obtain ⟨i, hi, hz, hs, hb⟩ := info_parts Try.infoHunk
  have := run_make (P := Try.prog) w 33 62 i _ Try.underlying33 hi hz .i64 .i64 (n : Int) (n : Int) (by omega) (by omega) (by rw [hb]; omega) (by omega)
  rw [this]
  have e : madeCells (Value.agg #[.int .i64 0, .slice none 0 0, .slice none 0 0]).cells (n * 3) = hvA (List.replicate n hv0) := by
    apply Array.ext
    · rw [hvA_size]; simp [madeCells, Value.cells]
    · intro k h1 h2
      rw [hvA_size, List.length_replicate] at h2
      have hk : k / 3 < (List.replicate n hv0).length := by rw [List.length_replicate]; omega
      have hm : k = (k / 3) * 3 + k % 3 := by omega
      have g := hvA_get (List.replicate n hv0) (k / 3) hk
      have hmod : k % 3 = 0 ∨ k % 3 = 1 ∨ k % 3 = 2 := by omega
      have hv : ∀ u, (hvA (List.replicate n hv0))[k]? = some u → (hvA (List.replicate n hv0))[k]'(by rw [hvA_size, List.length_replicate]; exact h2) = u := fun u hu => by
        rw [Array.getElem?_eq_getElem (by rw [hvA_size, List.length_replicate]; exact h2)] at hu
        simpa using hu
      rcases hmod with h | h | h
      · have e1 : k = k / 3 * 3 := by omega
        rw [hv (.int .i64 0) (by rw [e1]; simpa [hv0] using g.1)]
        simp [madeCells, Value.cells, h]
      · have e1 : k = k / 3 * 3 + 1 := by omega
        rw [hv (.slice none 0 0) (by rw [e1]; simpa [hv0] using g.2.1)]
        simp [madeCells, Value.cells, h]
      · have e1 : k = k / 3 * 3 + 2 := by omega
        rw [hv (.slice none 0 0) (by rw [e1]; simpa [hv0] using g.2.2)]
        simp [madeCells, Value.cells, h]
  simp only [Int.toNat_natCast]
  rw [hs, e]
/-- A patch that is copied: the first i hunks stand. -/
structure CpI (w : World) (gc : Nat) (p : List Hk) (i : Nat) (hs : List HV) (wr : World) : Prop where
  row : Has wr gc (hvA (hs ++ List.replicate (p.length - i) hv0)) 62
  len : hs.length = i
  ok : HvOk wr (fun y => w.heap.size ≤ y ∧ y ≠ gc) hs (p.take i)
  ap : (hvB hs).Nodup
  lt : ∀ y, some y ∈ hvB hs → y < wr.heap.size
  sm : ∀ y ∈ hvB hs, y ≠ none
  gl : w.heap.size ≤ gc
  ho : Only (fun _ => False) w wr
theorem CpI.step {w : World} {gc : Nat} {p : List Hk} {i : Nat} {hs : List HV} {wr w1 : World} {d n : Nat} (h : CpI w gc p i hs wr) (hi : i < p.length)
    (hD : OwnL w1 (.slice (some ⟨d, 0, none⟩) p[i].del.length p[i].del.length) p[i].del) (hN : OwnL w1 (.slice (some ⟨n, 0, none⟩) p[i].ins.length p[i].ins.length) p[i].ins) (ho : Only (fun _ => False) wr w1) (hd : wr.heap.size ≤ d) (hdn : d < n) (hn : n < w1.heap.size) :
    CpI w gc p (i + 1) (hs ++ [⟨p[i].at_, .slice (some ⟨d, 0, none⟩) p[i].del.length p[i].del.length, .slice (some ⟨n, 0, none⟩) p[i].ins.length p[i].ins.length⟩]) (((w1.setCell ⟨gc, i * 3, none⟩ (.int .i64 p[i].at_)).setCell ⟨gc, i * 3 + 1, none⟩ (.slice (some ⟨d, 0, none⟩) p[i].del.length p[i].del.length)).setCell ⟨gc, i * 3 + 2, none⟩ (.slice (some ⟨n, 0, none⟩) p[i].ins.length p[i].ins.length)) := by
  have hgl := h.row.lt
  have hws := h.ho.size
  have hs1 := ho.size
  have hr1 := h.row.keep ho (fun h => h)
  have hr2 := hr1.hunk i (by simp [h.len]; omega) p[i].at_ (.slice (some ⟨d, 0, none⟩) p[i].del.length p[i].del.length) (.slice (some ⟨n, 0, none⟩) p[i].ins.length p[i].ins.length)
  have oS := ((donly1 (w := w1) (p := gc) (i * 3) (.int .i64 p[i].at_)).trans (donly1 (p := gc) (i * 3 + 1) (.slice (some ⟨d, 0, none⟩) p[i].del.length p[i].del.length)) (fun _ _ h => h)).trans (donly1 (p := gc) (i * 3 + 2) (.slice (some ⟨n, 0, none⟩) p[i].ins.length p[i].ins.length)) (fun _ _ h => h)
  refine ⟨?_, by simp [h.len], ?_, ?_, ?_, ?_, h.gl, ?_⟩
  · have e : (hs ++ List.replicate (p.length - i) hv0).set i ⟨p[i].at_, .slice (some ⟨d, 0, none⟩) p[i].del.length p[i].del.length, .slice (some ⟨n, 0, none⟩) p[i].ins.length p[i].ins.length⟩ = (hs ++ [⟨p[i].at_, .slice (some ⟨d, 0, none⟩) p[i].del.length p[i].del.length, .slice (some ⟨n, 0, none⟩) p[i].ins.length p[i].ins.length⟩]) ++ List.replicate (p.length - (i + 1)) hv0 := by
      rw [List.set_append_right _ _ (by rw [h.len]; omega), h.len, Nat.sub_self]
      have e1 : p.length - i = (p.length - (i + 1)) + 1 := by omega
      rw [e1, List.replicate_succ]
      simp
    rw [e] at hr2
    exact hr2
  · rw [List.take_succ_eq_append_getElem hi]
    refine HvOk.snoc ?_ ((h.ok.keep ho (fun _ _ h => h)).keep oS (fun y hy e => hy.2 e))
    refine ⟨rfl, hD.keep oS (fun y hy e => ?_), hN.keep oS (fun y hy e => ?_), fun y hy => ?_⟩
    · simp [Value.ownBlock] at hy; omega
    · simp [Value.ownBlock] at hy; omega
    · simp [Value.ownBlock] at hy; omega
  · rw [hvB_snoc, List.nodup_append]
    refine ⟨h.ap, ?_, ?_⟩
    · simp [Value.ownBlock]; omega
    · intro a ha b hb e
      subst e
      simp [Value.ownBlock] at hb
      rcases hb with hb | hb
      · subst hb; have := h.lt _ ha; omega
      · subst hb; have := h.lt _ ha; omega
  · intro y hy
    rw [hvB_snoc, List.mem_append] at hy
    have hsz := oS.size
    rcases hy with hy | hy
    · have := h.lt y hy; omega
    · simp [Value.ownBlock] at hy; omega
  · intro y hy
    rw [hvB_snoc, List.mem_append] at hy
    rcases hy with hy | hy
    · exact h.sm y hy
    · simp [Value.ownBlock] at hy
      rcases hy with hy | hy <;> simp [hy]
  · exact (h.ho.trans ho (fun _ _ h => h)).trans oS (fun y hy e => by have := h.gl; omega)
set_option maxRecDepth 100000 in
set_option maxHeartbeats 4000000 in
theorem copyPatch_any {w : World} {v : Value} {hs : List HV} {p : List Hk} {G : Nat → Prop} (h : PatO w v hs p G) (hpl : p.length ≤ 100000) (hdl : ∀ k ∈ p, k.del.length ≤ 100000 ∧ k.ins.length ≤ 100000) :
    Calls Try.prog 22 #[v] w fun e w' => ∃ v' hs', e = .returned v' ∧ PatO w' v' hs' p (fun y => w.heap.size ≤ y) ∧ (hvB hs').Nodup ∧ (∀ y ∈ hvB hs', y ≠ none) ∧ Only (fun _ => False) w w' ∧ ∃ g, v' = .slice (some ⟨g, 0, none⟩) p.length p.length := by
  obtain ⟨va, vc, rfl⟩ := h.shape
  have hm := drun_make_hunks w p.length (by omega)
  have hi0 : CpI w w.heap.size p 0 [] (w.alloc (.cells (hvA (List.replicate p.length hv0)) 62)) :=
    ⟨Has.new w _ _, rfl, trivial, List.nodup_nil, fun y hy => by simp [hvB] at hy, fun y hy => by simp [hvB] at hy, Nat.le_refl _, (Only.refl _ _).alloc _⟩
  have H0 := hide hi0
  have HP := hide h
  have Hdl := hide hdl
  clear h hi0 hdl
  go_enter Try.func22, Try.ntmps22
  go_wp2_with fail
  obtain ⟨gc, hgc⟩ : ∃ gc, gc = w.heap.size := ⟨_, rfl⟩
  rw [← hgc] at H0
  rw [← hgc]
  generalize w.alloc (.cells (hvA (List.replicate p.length hv0)) 62) = W0 at *
  clear hm hgc
  go_loopw [4] (fun iv wr => ∃ (i : Nat) (hs' : List HV), iv = .int .i64 i ∧ i ≤ p.length ∧ CpI w gc p i hs' wr) (fun iv _ => p.length - (intOf iv).toNat)
  case atStart => exact ⟨0, [], rfl, by omega, unhide H0⟩
  case round =>
    clear H0
    obtain ⟨i, hs', rfl, hi, hI⟩ := hrel
    by_cases hil : i < p.length
    · have b1 : decide ((i : Int) < (p.length : Int)) = true := decide_eq_true (by omega)
      have b2 : (i : Int) < (p.length : Int) := by omega
      obtain ⟨g, cap, hi', e, hgl, c0, c1, c2, hok⟩ := ((unhide HP).keep hI.ho (fun _ _ h => h)).at i hil
      obtain ⟨rfl, rfl⟩ : va = some ⟨g, 0, none⟩ ∧ vc = cap := by simpa using e
      have hdd := unhide Hdl p[i] (List.getElem_mem hil)
      have C := hide (copyHunk_any p[i].at_ _ _ _ _ hok.del.in_ hok.ins.in_ hdd.1 hdd.2)
      have HS := hide (fun w1 d n hD hN ho hd hdn hn => hI.step (w1 := w1) (d := d) (n := n) hil hD hN ho hd hdn hn)
      have HI := hide hI
      generalize hs[i].dv = dv at *
      generalize hs[i].iv = iv at *
      generalize p[i].at_ = at_ at *
      generalize p[i].del = D at *
      generalize p[i].ins = N at *
      clear hI hok e
      go_wp2_with fail
      refine (unhide C).mono ?_
      rintro r w1 ⟨d, n, rfl, hD, hN, ho, h1, h2, h3⟩
      have hr1 := (unhide HI).row.keep ho (fun h => h)
      have hsz : i < (hs' ++ List.replicate (p.length - i) hv0).length := by have := (unhide HI).len; simp; omega
      obtain ⟨q0, q1, q2⟩ := hvA_get _ i hsz
      have r0 := hr1.cell (i * 3)
      have r1 := hr1.cell (i * 3 + 1)
      have r2 := hr1.cell (i * 3 + 2)
      rw [q0] at r0
      rw [q1] at r1
      rw [q2] at r2
      have z0 := hr1.free (i * 3)
      have z1 := hr1.free (i * 3 + 1)
      have z2 := hr1.free (i * 3 + 2)
      have gl1 := hr1.lt
      have HN := hide (unhide HS w1 d n hD hN ho h1 h2 h3)
      generalize (hs' ++ List.replicate (p.length - i) hv0)[i].at_ = x0 at *
      generalize (hs' ++ List.replicate (p.length - i) hv0)[i].dv = x1 at *
      generalize (hs' ++ List.replicate (p.length - i) hv0)[i].iv = x2 at *
      clear hr1 hD hN ho q0 q1 q2 HS C HI
      go_wp2_with fail
      go_roundw
      case rel => exact ⟨i + 1, _, by go_num, by omega, unhide HN⟩
      case measure => simp [intOf]; omega
    · have b1 : decide ((i : Int) < (p.length : Int)) = false := decide_eq_false (by omega)
      have ei : i = p.length := by omega
      subst ei
      have HI := hide hI
      clear hI
      go_wp2_with fail
      go_ret
      obtain ⟨row, len, ok, ap, lt, sm, gl, ho⟩ := unhide HI
      rw [Nat.sub_self, List.replicate_zero, List.append_nil] at row
      rw [List.take_length] at ok
      refine ⟨_, hs', rfl, ⟨?_, ok.mono (fun y _ hy => hy.1), fun y hy => ?_⟩, ap, sm, ho, ⟨gc, rfl⟩⟩
      · rw [len]
        exact ⟨by rw [hvCells_len, len], .inr ⟨gc, p.length, hvA hs', rfl, Nat.zero_le _, row, Nat.le_refl _, by unfold maxLen; omega, by rw [hvA_size, len], by unfold hvA; rw [List.take_of_length_le (by have := hvCells_len hs'; simp; omega)]⟩⟩
      · simp [Value.ownBlock] at hy; omega
end Go.Proofs.Qxb6500416a
