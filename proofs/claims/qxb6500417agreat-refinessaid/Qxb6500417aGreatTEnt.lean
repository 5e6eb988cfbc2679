/-
  OWN WORK. THE TREE: lists of entries; api's CheckEntries (laid by tools/gen_tapi.py out of the index's texts).
-/
import Derived.Test.Qxb6500417aGreatTApi
import Derived.Test.Qxb6500417aGreatTJ
namespace Go.Proofs.Qxb6500417aGreat
open Go.RowKit Go.PlainAid
set_option linter.unusedSimpArgs false
set_option linter.unusedVariables false

def enV (f : En) : List Value := [.string (sb f.path), .int .i64 f.id, .int .i64 f.mode]
def enCells : List En → List Value
  | [] => []
  | f :: r => enV f ++ enCells r
theorem enCells_snoc (l : List En) (f : En) : enCells (l ++ [f]) = enCells l ++ [.string (sb f.path), .int .i64 f.id, .int .i64 f.mode] := by
  induction l with
  | nil => rfl
  | cons a r ih => simp [enCells, ih, enV]
theorem enCells_len (l : List En) : (enCells l).length = l.length * 3 := by
  induction l with
  | nil => rfl
  | cons a r ih => simp [enCells, ih, enV]; omega
theorem enCells_at : ∀ (l : List En) (i : Nat) (h : i < l.length), (enCells l)[i * 3]? = some (.string (sb l[i].path)) ∧ (enCells l)[i * 3 + 1]? = some (.int .i64 l[i].id) ∧ (enCells l)[i * 3 + 2]? = some (.int .i64 l[i].mode)
  | [], i, h => by simp at h
  | f :: r, 0, h => ⟨rfl, rfl, rfl⟩
  | f :: r, i + 1, h => by
    have := enCells_at r i (by simpa using h)
    have e : (i + 1) * 3 = i * 3 + 3 := by omega
    rw [e]
    exact this

/-- The list lies at the slice (to be read). -/
def EntsIn (w : World) (v : Value) (l : List En) : Prop := ∃ a cap, v = .slice a l.length cap ∧ (0 < l.length → ∃ g, a = some ⟨g, 0, none⟩ ∧ ∀ i (h : i < l.length), w.cell? ⟨g, i * 3, none⟩ = some (.string (sb l[i].path)) ∧ w.cell? ⟨g, i * 3 + 1, none⟩ = some (.int .i64 l[i].id) ∧ w.cell? ⟨g, i * 3 + 2, none⟩ = some (.int .i64 l[i].mode))
/-- The list lies in an array of its own. -/
def OwnE (w : World) (v : Value) (l : List En) : Prop := w.ownsRow 0 184 3 v l.length (enCells l)

theorem EntsIn.keep {S : Nat → Prop} {w w' : World} {v : Value} {l : List En} (h : EntsIn w v l) (ho : Only S w w') (hS : ∀ k, v.ownBlock = some k → ¬ S k) : EntsIn w' v l := by
  obtain ⟨a, cap, rfl, h2⟩ := h
  refine ⟨a, cap, rfl, fun hn => ?_⟩
  obtain ⟨g, rfl, hc⟩ := h2 hn
  have hgl : g < w.heap.size := World.block_lt_of_cell? w _ (hc 0 hn).1
  have hb := ho.block g hgl (hS g rfl)
  refine ⟨g, rfl, fun i hi => ?_⟩
  obtain ⟨a1, a2, a3⟩ := hc i hi
  exact ⟨(World.cell?_of_block hb).trans a1, (World.cell?_of_block hb).trans a2, (World.cell?_of_block hb).trans a3⟩
theorem EntsIn.lt {w : World} {v : Value} {l : List En} (h : EntsIn w v l) (hn : 0 < l.length) : ∃ g cap, v = .slice (some ⟨g, 0, none⟩) l.length cap ∧ g < w.heap.size := by
  obtain ⟨a, cap, rfl, h2⟩ := h
  obtain ⟨g, rfl, hc⟩ := h2 hn
  exact ⟨g, cap, rfl, World.block_lt_of_cell? w _ (hc 0 hn).1⟩
theorem OwnE.keep {S : Nat → Prop} {w w' : World} {v : Value} {l : List En} (h : OwnE w v l) (ho : Only S w w') (hS : ∀ k, v.ownBlock = some k → ¬ S k) : OwnE w' v l := ownsRow_keep h ho hS
theorem OwnE.nil (w : World) : OwnE w (.slice none 0 0) [] := World.ownsRow_nil _ _ _ _
theorem OwnE.in_ {w : World} {v : Value} {l : List En} (h : OwnE w v l) : EntsIn w v l := by
  obtain ⟨a, cap, rfl⟩ := ownsRow_shape h
  refine ⟨a, cap, rfl, fun hn => ?_⟩
  rcases h.2 with ⟨he, h0⟩ | ⟨g, cap', cur, he, _⟩
  · omega
  · obtain ⟨rfl, _, _⟩ : a = some ⟨g, 0, none⟩ ∧ True ∧ cap = cap' := by simpa using he
    refine ⟨g, rfl, fun i hi => ?_⟩
    have hc := World.ownsRow.cells h (g := g) (by first | exact rfl | simp [Value.ownBlock])
    obtain ⟨a1, a2, a3⟩ := enCells_at l i hi
    have b1 := hc _ _ a1
    have b2 := hc _ _ a2
    have b3 := hc _ _ a3
    rw [addr_add] at b1 b2 b3
    exact ⟨b1, b2, b3⟩

theorem Tryz.infoEntry : (Tryz.prog.info? 184).map (fun i => (i.zero, i.size, i.bytes)) = some (some (.agg #[.string ⟨#[]⟩, .int .i64 0, .int .i64 0]), 3, 32) := by kernel_rfl
theorem OwnE.push {w : World} {v : Value} {l : List En} {f : En} (h : w.ownsRow 0 184 3 v (l.length + 1) (enCells l ++ [.string (sb f.path), .int .i64 f.id, .int .i64 f.mode])) : OwnE w v (l ++ [f]) := by
  unfold OwnE
  rw [enCells_snoc, List.length_append]
  exact h
def chkE : List En → List ByteArray → Nat
  | [], _ => 0
  | f :: r, prev => if rowErr (sb f.path) f.mode 0 prev = 0 then chkE r (prev ++ [sb f.path]) else rowErr (sb f.path) f.mode 0 prev
def checkE (l : List En) : Nat := if 8 < l.length then 8 else chkE l []
set_option maxRecDepth 100000 in
set_option maxHeartbeats 2000000 in
theorem checkEntries_any {w : World} (v : Value) (l : List En) (h : EntsIn w v l) :
    Calls Tryz.prog 162 #[v] w fun e w' => e = .returned (.int .i64 (checkE l : Nat)) ∧ Only (fun _ => False) w w' := by
  obtain ⟨a, cap, rfl, hc⟩ := h
  obtain ⟨i0, hi0, hz0, hz1, hz2⟩ := info_parts Tryz.infoStr
  unfold checkE
  by_cases h8 : 8 < l.length
  · rw [if_pos h8]
    have a1 : decide ((8 : Int) < (l.length : Int)) = true := by simp; omega
    clear hc
    go_enter Tryz.func162, Tryz.ntmps162
    go_wp2_with fail
    go_ret
    exact ⟨rfl, Only.refl _ _⟩
  · rw [if_neg h8]
    have a1 : decide ((8 : Int) < (l.length : Int)) = false := by simp; omega
    have hR : ∃ R, chkE l [] = R := ⟨_, rfl⟩
    obtain ⟨R, hR⟩ := hR
    rw [hR]
    have HR := hide hR
    have Hc := hide hc
    have H0 := hide (SI.nil w)
    clear hc hR
    go_enter Tryz.func162, Tryz.ntmps162
    go_wp2_with fail
    go_loopw [3, 4] (fun ov iv wr => ∃ (i : Nat) (prev : List ByteArray), i ≤ l.length ∧ iv = .int .i64 i ∧ prev.length = i ∧ R = chkE (l.drop i) prev ∧ (∀ q ∈ prev, q.size ≤ 12) ∧ SI w ov prev wr) (fun _ iv _ => l.length - (intOf iv).toNat)
    case atStart => exact ⟨0, [], by omega, rfl, rfl, by rw [← unhide HR]; rfl, fun q hq => by simp at hq, unhide H0⟩
    case round =>
      clear H0 HR
      obtain ⟨i, prev, hi, rfl, hpl, hRi, hq12, hI⟩ := hrel
      by_cases hil : i < l.length
      · obtain ⟨g, rfl, hcell⟩ := unhide Hc (by omega)
        obtain ⟨c0, c1, c2⟩ := hcell i hil
        have hgl : g < w.heap.size := World.block_lt_of_cell? w _ c0
        have hbk := hI.ho.block g hgl (fun h => h)
        have c0 := (World.cell?_of_block hbk).trans c0
        have c1 := (World.cell?_of_block hbk).trans c1
        have c2 := (World.cell?_of_block hbk).trans c2
        have b1 : decide ((i : Int) < (l.length : Int)) = true := by simp; omega
        have b2 : (i : Int) < (l.length : Int) := by omega
        have hdr : l.drop i = l[i] :: l.drop (i + 1) := List.drop_eq_getElem_cons hil
        have hws := hI.ho.size
        have hgw : g < wr.heap.size := by omega
        rw [hdr] at hRi
        clear hcell hbk hdr
        generalize l[i] = li at *
        have C1 : ∀ (n : Nat), Calls Tryz.prog 175 #[.string (sb li.path), .int .i64 li.mode, .int .i64 0, u3] (wr.drewN n) (fun e w' => e = .returned (.int .i64 (rowErr (sb li.path) li.mode 0 prev : Nat)) ∧ w' = wr.drewN n) := fun (n : Nat) => (checkRow_any (sb li.path) li.mode 0 _ prev ((hI.quiet ((Only.refl (fun _ => False) wr).drewO n)).own.in_) (by omega) hq12).mono (R' := fun e w' => e = .returned (.int .i64 (rowErr (sb li.path) li.mode 0 prev : Nat)) ∧ w' = wr.drewN n) (fun e w' h => ⟨h.1, h.2.symm⟩)
        have hRi' : R = if rowErr (sb li.path) li.mode 0 prev = 0 then chkE (l.drop (i + 1)) (prev ++ [(sb li.path)]) else rowErr (sb li.path) li.mode 0 prev := hRi
        have hgd := @rowErr_good (sb li.path) li.mode 0 prev
        generalize rowErr (sb li.path) li.mode 0 prev = er at *
        have C1 := hide C1
        have Hgd := hide hgd
        have HRi := hide hRi'
        have HI := hide hI
        have Hq := hide hq12
        clear hRi hRi' hgd hI hq12
        by_cases her : er = 0
        · subst her
          have h12 := (goodB_size (unhide Hgd rfl)).2
          go_wp2_with fail
          go_quiet (first | (go_at_call 175; refine Calls.quiet_of_same ((unhide C1) _)))
          have hQ := (unhide HI).quiet ((Only.refl (fun _ => False) wr).drewO nq)
          have hbk := ((Only.refl (fun _ => False) wr).drewO nq).block g hgw (fun h => h)
          have c0 := (World.cell?_of_block (a := ⟨g, i * 3, none⟩) hbk).trans c0
          have hsq := hQ.ho.size
          generalize wr.drewN nq = W1 at *
          have hgq : g < W1.heap.size := by omega
          have own4 : W1.ownsRow 0 9 1 _ _ _ := hQ.own
          have HQ := hide hQ
          clear hQ hbk c1 c2 C1
          go_wp2_with (at_builtin; refine wpList_append2 _ rfl _ _ 197 rfl 9 i0 _ 1 16 Tryz.underlying197 hi0 hz0 hz1 hz2 rfl (by decide) _ _ _ rfl (own4.alloc _) ⟨W1.heap.size, 0, none⟩ 1 1 [.string (sb li.path)] rfl rfl ?c1 ?c2 ?c3 ?c4 ?_)
          try (case c1 => exact news_ok _ _ _ _ rfl)
          case c2 => intro u hu; simp at hu; subst hu; rfl
          case c3 => unfold maxLen; omega
          case c4 => omega
          intro v4 w4 hown' hgrow hwhere
          have h4 := (unhide HQ).push (sb li.path) hown' (by first | rfl | omega | (simp; omega)) hgrow hwhere
          have H4 := hide h4
          clear hown' hgrow hwhere own4 HQ h4
          go_wp2_with fail
          go_roundw
          case rel =>
            refine ⟨i + 1, prev ++ [(sb li.path)], by omega, by go_num, by simp; omega, ?_, ?_, unhide H4⟩
            · have := unhide HRi
              simpa using this
            · intro q hq
              rw [List.mem_append] at hq
              rcases hq with hq | hq
              · exact unhide Hq q hq
              · simp at hq; rw [hq]; exact h12
          case measure => simp [intOf]; omega
        · have hRe : R = er := by
            have := unhide HRi
            rw [if_neg her] at this
            exact this
          have e1 : ((er : Int) != 0) = true := by simp; omega
          have HRe := hide hRe
          have hho := (unhide HI).ho
          clear hRe her
          go_wp2_with fail
          go_quiet (first | (go_at_call 175; refine Calls.quiet_of_same ((unhide C1) _)))
          go_wp2_with fail
          go_ret
          rw [unhide HRe]
          exact ⟨rfl, hho.drewO _⟩
      · obtain rfl : i = l.length := by omega
        have b1 : decide ((l.length : Int) < (l.length : Int)) = false := by simp
        rw [List.drop_length] at hRi
        have hR0 : R = 0 := hRi
        have HR0 := hide hR0
        have hho := hI.ho
        clear hRi hR0 hI hq12
        go_wp2_with fail
        go_ret
        rw [unhide HR0]
        exact ⟨rfl, hho⟩
end Go.Proofs.Qxb6500417aGreat
