/-
  OWN WORK. THE GRAPH: lists of files; api's CopyFiles, CheckFiles.
-/
import Derived.Test.Qxb6500417aGreatTApi
import Derived.Test.Qxb6500417aGreatTEnt
namespace Go.Proofs.Qxb6500417aGreat
open Go.RowKit Go.PlainAid
set_option linter.unusedSimpArgs false
set_option linter.unusedVariables false

structure Fl where
  path : ByteArray
  data : ByteArray
  mode : Int
def flV (f : Fl) : List Value := [.string f.path, .string f.data, .int .i64 f.mode]
def flCells : List Fl → List Value
  | [] => []
  | f :: r => flV f ++ flCells r
theorem flCells_snoc (l : List Fl) (f : Fl) : flCells (l ++ [f]) = flCells l ++ [.string f.path, .string f.data, .int .i64 f.mode] := by
  induction l with
  | nil => rfl
  | cons a r ih => simp [flCells, ih, flV]
theorem flCells_len (l : List Fl) : (flCells l).length = l.length * 3 := by
  induction l with
  | nil => rfl
  | cons a r ih => simp [flCells, ih, flV]; omega
theorem flCells_at : ∀ (l : List Fl) (i : Nat) (h : i < l.length), (flCells l)[i * 3]? = some (.string l[i].path) ∧ (flCells l)[i * 3 + 1]? = some (.string l[i].data) ∧ (flCells l)[i * 3 + 2]? = some (.int .i64 l[i].mode)
  | [], i, h => by simp at h
  | f :: r, 0, h => ⟨rfl, rfl, rfl⟩
  | f :: r, i + 1, h => by
    have := flCells_at r i (by simpa using h)
    have e : (i + 1) * 3 = i * 3 + 3 := by omega
    rw [e]
    exact this

/-- The list lies at the slice (to be read). -/
def FilesIn (w : World) (v : Value) (l : List Fl) : Prop := ∃ a cap, v = .slice a l.length cap ∧ (0 < l.length → ∃ g, a = some ⟨g, 0, none⟩ ∧ ∀ i (h : i < l.length), w.cell? ⟨g, i * 3, none⟩ = some (.string l[i].path) ∧ w.cell? ⟨g, i * 3 + 1, none⟩ = some (.string l[i].data) ∧ w.cell? ⟨g, i * 3 + 2, none⟩ = some (.int .i64 l[i].mode))
/-- The list lies in an array of its own. -/
def OwnF (w : World) (v : Value) (l : List Fl) : Prop := w.ownsRow 0 78 3 v l.length (flCells l)

theorem FilesIn.keep {S : Nat → Prop} {w w' : World} {v : Value} {l : List Fl} (h : FilesIn w v l) (ho : Only S w w') (hS : ∀ k, v.ownBlock = some k → ¬ S k) : FilesIn w' v l := by
  obtain ⟨a, cap, rfl, h2⟩ := h
  refine ⟨a, cap, rfl, fun hn => ?_⟩
  obtain ⟨g, rfl, hc⟩ := h2 hn
  have hgl : g < w.heap.size := World.block_lt_of_cell? w _ (hc 0 hn).1
  have hb := ho.block g hgl (hS g rfl)
  refine ⟨g, rfl, fun i hi => ?_⟩
  obtain ⟨a1, a2, a3⟩ := hc i hi
  exact ⟨(World.cell?_of_block hb).trans a1, (World.cell?_of_block hb).trans a2, (World.cell?_of_block hb).trans a3⟩
theorem FilesIn.lt {w : World} {v : Value} {l : List Fl} (h : FilesIn w v l) (hn : 0 < l.length) : ∃ g cap, v = .slice (some ⟨g, 0, none⟩) l.length cap ∧ g < w.heap.size := by
  obtain ⟨a, cap, rfl, h2⟩ := h
  obtain ⟨g, rfl, hc⟩ := h2 hn
  exact ⟨g, cap, rfl, World.block_lt_of_cell? w _ (hc 0 hn).1⟩
theorem OwnF.keep {S : Nat → Prop} {w w' : World} {v : Value} {l : List Fl} (h : OwnF w v l) (ho : Only S w w') (hS : ∀ k, v.ownBlock = some k → ¬ S k) : OwnF w' v l := ownsRow_keep h ho hS
theorem OwnF.nil (w : World) : OwnF w (.slice none 0 0) [] := World.ownsRow_nil _ _ _ _
theorem OwnF.in_ {w : World} {v : Value} {l : List Fl} (h : OwnF w v l) : FilesIn w v l := by
  obtain ⟨a, cap, rfl⟩ := ownsRow_shape h
  refine ⟨a, cap, rfl, fun hn => ?_⟩
  rcases h.2 with ⟨he, h0⟩ | ⟨g, cap', cur, he, _⟩
  · omega
  · obtain ⟨rfl, _, _⟩ : a = some ⟨g, 0, none⟩ ∧ True ∧ cap = cap' := by simpa using he
    refine ⟨g, rfl, fun i hi => ?_⟩
    have hc := World.ownsRow.cells h (g := g) (by first | exact rfl | simp [Value.ownBlock])
    obtain ⟨a1, a2, a3⟩ := flCells_at l i hi
    have b1 := hc _ _ a1
    have b2 := hc _ _ a2
    have b3 := hc _ _ a3
    rw [addr_add] at b1 b2 b3
    exact ⟨b1, b2, b3⟩

theorem Tryz.infoFile : (Tryz.prog.info? 78).map (fun i => (i.zero, i.size, i.bytes)) = some (some (.agg #[.string ⟨#[]⟩, .string ⟨#[]⟩, .int .i64 0]), 3, 40) := by kernel_rfl

def findI (l : List Fl) (p : ByteArray) : Int := match l.findIdx? (fun f => decide (f.path = p)) with | some i => i | none => -1
theorem findI_at {l : List Fl} {p : ByteArray} {i : Nat} (hi : i < l.length) (hp : l[i].path = p) (hb : ∀ j (hj : j < l.length), j < i → l[j].path ≠ p) : findI l p = i := by
  unfold findI
  have : l.findIdx? (fun f => decide (f.path = p)) = some i := by
    rw [List.findIdx?_eq_some_iff_getElem]
    refine ⟨hi, by simpa using hp, fun j hj => ?_⟩
    simpa using hb j (by omega) hj
  rw [this]
theorem findI_no {l : List Fl} {p : ByteArray} (hb : ∀ j (hj : j < l.length), l[j].path ≠ p) : findI l p = -1 := by
  unfold findI
  have : l.findIdx? (fun f => decide (f.path = p)) = none := by
    rw [List.findIdx?_eq_none_iff]
    intro f hf
    obtain ⟨j, hj, rfl⟩ := List.getElem_of_mem hf
    simpa using hb j hj
  rw [this]

theorem str_ne {a b : ByteArray} (h : a ≠ b) : (a.toList == b.toList) = false := by
  rw [ls_eq_iff, decide_eq_false (fun e => h (ls_inj e))]
theorem str_eq (a : ByteArray) : (a.toList == a.toList) = true := by simp

set_option maxRecDepth 100000 in
set_option maxHeartbeats 1000000 in
theorem copyFiles_any {w : World} (v : Value) (l : List Fl) (h : FilesIn w v l) (hlen : l.length ≤ 1000) :
    Calls Tryz.prog 69 #[v] w fun e w' => ∃ v', e = .returned v' ∧ OwnF w' v' l ∧ (∀ y, v'.ownBlock = some y → w.heap.size ≤ y) ∧ Only (fun _ => False) w w' := by
  obtain ⟨a, cap, rfl, hc⟩ := h
  obtain ⟨i0, hi0, hz0, hz1, hz2⟩ := info_parts Tryz.infoFile
  have Hc := hide hc
  have H0 := hide (OwnF.nil w)
  clear hc
  go_enter Tryz.func69, Tryz.ntmps69
  go_wp2_with fail
  go_loopw [3, 4] (fun ov iv wr => ∃ i : Nat, i ≤ l.length ∧ iv = .int .i64 i ∧ OwnF wr ov (l.take i) ∧ (∀ y, ov.ownBlock = some y → w.heap.size ≤ y) ∧ Only (fun _ => False) w wr) (fun _ iv _ => l.length - (intOf iv).toNat)
  case atStart => exact ⟨0, by omega, rfl, unhide H0, fun y hy => by simp [Value.ownBlock] at hy, Only.refl _ _⟩
  case round =>
    clear H0
    obtain ⟨i, hi, rfl, hown, hb, ho⟩ := hrel
    by_cases hil : i < l.length
    · obtain ⟨g, rfl, hcell⟩ := unhide Hc (by omega)
      obtain ⟨c0, c1, c2⟩ := hcell i hil
      have hgl : g < w.heap.size := World.block_lt_of_cell? w _ c0
      have hbk := ho.block g hgl (fun h => h)
      rw [← World.cell?_of_block hbk] at c0 c1 c2
      have a1 : decide ((i : Int) < (l.length : Int)) = true := by simp; omega
      have a2 : (i : Int) < (l.length : Int) := by omega
      have hsn : flCells (l.take i) ++ [.string l[i].path, .string l[i].data, .int .i64 l[i].mode] = flCells (l.take (i + 1)) := by
        rw [List.take_succ_eq_append_getElem hil, flCells_snoc]
      have hlt : (l.take i).length = i := by rw [List.length_take]; omega
      have hlt' : (l.take (i + 1)).length = i + 1 := by rw [List.length_take]; omega
      unfold OwnF at hown
      rw [hlt] at hown
      have Hb := hide hb
      have Hsn := hide hsn
      have Hlt' := hide hlt'
      have hws := ho.size
      clear hb hsn hlt hlt' hcell hbk
      generalize l[i].path = q0 at *
      generalize l[i].data = q1 at *
      generalize l[i].mode = q2 at *
      generalize flCells (l.take i) = xs at *
      have hgw : g < wr.heap.size := by omega
      go_wp2_with (at_builtin; refine wpList_append2 _ rfl _ _ 36 rfl 78 i0 _ 3 40 Tryz.underlying36 hi0 hz0 hz1 hz2 rfl (by decide) _ _ _ rfl (hown.alloc _) ⟨wr.heap.size, 0, none⟩ 1 1 [.string q0, .string q1, .int .i64 q2] rfl rfl ?c1 ?c2 ?c3 ?c4 ?_)
      try (case c1 => exact news_ok _ _ _ _ rfl)
      case c2 => intro u hu; simp at hu; rcases hu with rfl | rfl | rfl <;> rfl
      case c3 => unfold maxLen; omega
      case c4 => omega
      intro v' w4 hown' hgrow hwhere
      have o4 : Only (fun _ => False) w w4 := (ho.alloc _).grown hgrow (fun b hb hlt => by have := unhide Hb b hb; omega)
      rw [unhide Hsn] at hown'
      have Hw := hide hwhere
      have Ho := hide hown'
      clear hwhere hown'
      go_wp2_with fail
      go_roundw
      case rel =>
        refine ⟨i + 1, by omega, by go_num, ?_, ?_, o4⟩
        · unfold OwnF
          rw [unhide Hlt']
          exact unhide Ho
        · intro b hb'
          rcases unhide Hw b hb' with e | e
          · exact unhide Hb b e
          · try simp at e
            omega
      case measure => simp [intOf]; omega
    · obtain rfl : i = l.length := by omega
      rw [List.take_length] at hown
      have Ho := hide hown
      have Hb := hide hb
      have a1 : decide ((l.length : Int) < (l.length : Int)) = false := by simp
      clear hown hb
      go_wp2_with fail
      go_ret
      exact ⟨_, rfl, unhide Ho, unhide Hb, ho⟩
def chkF : List Fl → List ByteArray → Nat
  | [], _ => 0
  | f :: r, prev => if rowErr f.path f.mode f.data.size prev = 0 then chkF r (prev ++ [f.path]) else rowErr f.path f.mode f.data.size prev
def checkF (l : List Fl) : Nat := if 8 < l.length then 8 else chkF l []
set_option maxRecDepth 100000 in
set_option maxHeartbeats 2000000 in
theorem checkFiles_any {w : World} (v : Value) (l : List Fl) (h : FilesIn w v l) :
    Calls Tryz.prog 138 #[v] w fun e w' => e = .returned (.int .i64 (checkF l : Nat)) ∧ Only (fun _ => False) w w' := by
  obtain ⟨a, cap, rfl, hc⟩ := h
  obtain ⟨i0, hi0, hz0, hz1, hz2⟩ := info_parts Tryz.infoStr
  unfold checkF
  by_cases h8 : 8 < l.length
  · rw [if_pos h8]
    have a1 : decide ((8 : Int) < (l.length : Int)) = true := by simp; omega
    clear hc
    go_enter Tryz.func138, Tryz.ntmps138
    go_wp2_with fail
    go_ret
    exact ⟨rfl, Only.refl _ _⟩
  · rw [if_neg h8]
    have a1 : decide ((8 : Int) < (l.length : Int)) = false := by simp; omega
    have hR : ∃ R, chkF l [] = R := ⟨_, rfl⟩
    obtain ⟨R, hR⟩ := hR
    rw [hR]
    have HR := hide hR
    have Hc := hide hc
    have H0 := hide (SI.nil w)
    clear hc hR
    go_enter Tryz.func138, Tryz.ntmps138
    go_wp2_with fail
    go_loopw [3, 4] (fun ov iv wr => ∃ (i : Nat) (prev : List ByteArray), i ≤ l.length ∧ iv = .int .i64 i ∧ prev.length = i ∧ R = chkF (l.drop i) prev ∧ (∀ q ∈ prev, q.size ≤ 12) ∧ SI w ov prev wr) (fun _ iv _ => l.length - (intOf iv).toNat)
    case atStart => exact ⟨0, [], by omega, rfl, rfl, by rw [← unhide HR]; rfl, fun q hq => by simp at hq, unhide H0⟩
    case round =>
      clear H0 HR
      obtain ⟨i, prev, hi, rfl, hpl, hRi, hq12, hI⟩ := hrel
      by_cases hil : i < l.length
      · obtain ⟨g, rfl, hcell⟩ := unhide Hc (by omega)
        obtain ⟨c0, c1, c2⟩ := hcell i hil
        have hgl : g < w.heap.size := World.block_lt_of_cell? w _ c0
        have hbk := hI.ho.block g hgl (fun h => h)
        have c0 := (World.cell?_of_block hbk).trans c0
        have c1 := (World.cell?_of_block hbk).trans c1
        have c2 := (World.cell?_of_block hbk).trans c2
        have b1 : decide ((i : Int) < (l.length : Int)) = true := by simp; omega
        have b2 : (i : Int) < (l.length : Int) := by omega
        have hdr : l.drop i = l[i] :: l.drop (i + 1) := List.drop_eq_getElem_cons hil
        have hws := hI.ho.size
        have hgw : g < wr.heap.size := by omega
        rw [hdr] at hRi
        clear hcell hbk hdr
        generalize l[i] = li at *
        have C1 := fun (n : Nat) => (checkRow_any li.path li.mode li.data.size _ prev ((hI.quiet ((Only.refl (fun _ => False) wr).drewO n)).own.in_) (by omega) hq12).mono (R' := fun e w' => e = .returned (.int .i64 (rowErr li.path li.mode li.data.size prev : Nat)) ∧ w' = wr.drewN n) (fun e w' h => ⟨h.1, h.2.symm⟩)
        have hRi' : R = if rowErr li.path li.mode li.data.size prev = 0 then chkF (l.drop (i + 1)) (prev ++ [li.path]) else rowErr li.path li.mode li.data.size prev := hRi
        have hgd := @rowErr_good li.path li.mode li.data.size prev
        generalize rowErr li.path li.mode li.data.size prev = er at *
        have C1 := hide C1
        have Hgd := hide hgd
        have HRi := hide hRi'
        have HI := hide hI
        have Hq := hide hq12
        clear hRi hRi' hgd hI hq12
        by_cases her : er = 0
        · subst her
          have h12 := (goodB_size (unhide Hgd rfl)).2
          go_wp2_with fail
          go_quiet (first | (go_at_call 175; refine Calls.quiet_of_same ((unhide C1) _)))
          have hQ := (unhide HI).quiet ((Only.refl (fun _ => False) wr).drewO nq)
          have hbk := ((Only.refl (fun _ => False) wr).drewO nq).block g hgw (fun h => h)
          have c0 := (World.cell?_of_block (a := ⟨g, i * 3, none⟩) hbk).trans c0
          have hsq := hQ.ho.size
          generalize wr.drewN nq = W1 at *
          have hgq : g < W1.heap.size := by omega
          have own4 : W1.ownsRow 0 9 1 _ _ _ := hQ.own
          have HQ := hide hQ
          clear hQ hbk c1 c2 C1
          go_wp2_with (at_builtin; refine wpList_append2 _ rfl _ _ 197 rfl 9 i0 _ 1 16 Tryz.underlying197 hi0 hz0 hz1 hz2 rfl (by decide) _ _ _ rfl (own4.alloc _) ⟨W1.heap.size, 0, none⟩ 1 1 [.string li.path] rfl rfl ?c1 ?c2 ?c3 ?c4 ?_)
          try (case c1 => exact news_ok _ _ _ _ rfl)
          case c2 => intro u hu; simp at hu; subst hu; rfl
          case c3 => unfold maxLen; omega
          case c4 => omega
          intro v4 w4 hown' hgrow hwhere
          have h4 := (unhide HQ).push li.path hown' (by first | rfl | omega | (simp; omega)) hgrow hwhere
          have H4 := hide h4
          clear hown' hgrow hwhere own4 HQ h4
          go_wp2_with fail
          go_roundw
          case rel =>
            refine ⟨i + 1, prev ++ [li.path], by omega, by go_num, by simp; omega, ?_, ?_, unhide H4⟩
            · have := unhide HRi
              simpa using this
            · intro q hq
              rw [List.mem_append] at hq
              rcases hq with hq | hq
              · exact unhide Hq q hq
              · simp at hq; rw [hq]; exact h12
          case measure => simp [intOf]; omega
        · have hRe : R = er := by
            have := unhide HRi
            rw [if_neg her] at this
            exact this
          have e1 : ((er : Int) != 0) = true := by simp; omega
          have HRe := hide hRe
          have hho := (unhide HI).ho
          clear hRe her
          go_wp2_with fail
          go_quiet (first | (go_at_call 175; refine Calls.quiet_of_same ((unhide C1) _)))
          go_wp2_with fail
          go_ret
          rw [unhide HRe]
          exact ⟨rfl, hho.drewO _⟩
      · obtain rfl : i = l.length := by omega
        have b1 : decide ((l.length : Int) < (l.length : Int)) = false := by simp
        rw [List.drop_length] at hRi
        have hR0 : R = 0 := hRi
        have HR0 := hide hR0
        have hho := hI.ho
        clear hRi hR0 hI hq12
        go_wp2_with fail
        go_ret
        rw [unhide HR0]
        exact ⟨rfl, hho⟩
end Go.Proofs.Qxb6500417aGreat
