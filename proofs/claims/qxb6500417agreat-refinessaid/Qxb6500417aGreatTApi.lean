/-
  OWN WORK. THE TREE: api's checkRow (laid by tools/gen_tapi.py out of the index's texts).
-/
import Derived.Test.Qxb6500417aGreatTOrd
import Derived.Test.Qxb6500417aGreatOTab
namespace Go.Proofs.Qxb6500417aGreat
open Go.RowKit Go.PlainAid
set_option linter.unusedSimpArgs false
set_option linter.unusedVariables false

def ltS (a b : ByteArray) : Bool := Op.bytesLess a.toList b.toList
theorem ltS_eq (a b : ByteArray) : ltS a b = bl (ls a) (ls b) := by unfold ltS; rw [ls_toList, ls_toList]
def sb (l : Str) : ByteArray := ⟨l.toArray⟩
theorem ls_sb (l : Str) : ls (sb l) = l := by simp [ls, sb]
theorem sb_ls (s : ByteArray) : sb (ls s) = s := ls_inj (ls_sb _)
theorem sb_size (l : Str) : (sb l).size = l.length := by rw [← ls_len, ls_sb]
def OwnS (w : World) (v : Value) (l : List ByteArray) : Prop := w.ownsRow 0 9 1 v l.length (l.map Value.string)
def StrsIn (w : World) (v : Value) (l : List ByteArray) : Prop := ∃ a cap, v = .slice a l.length cap ∧ (0 < l.length → ∃ g, a = some ⟨g, 0, none⟩ ∧ ∀ i (h : i < l.length), w.cell? ⟨g, i, none⟩ = some (.string l[i]))
theorem OwnS.in_ {w : World} {v : Value} {l : List ByteArray} (h : OwnS w v l) : StrsIn w v l := by
  obtain ⟨a, cap, rfl⟩ := ownsRow_shape h
  refine ⟨a, cap, rfl, fun hn => ?_⟩
  rcases h.2 with ⟨he, h0⟩ | ⟨g, cap', cur, he, _⟩
  · omega
  · obtain ⟨rfl, _, _⟩ : a = some ⟨g, 0, none⟩ ∧ True ∧ cap = cap' := by simpa using he
    refine ⟨g, rfl, fun i hi => ?_⟩
    have hc := World.ownsRow.cells h (g := g) (by first | exact rfl | simp [Value.ownBlock])
    have b1 := hc i (.string l[i]) (by simp [hi])
    rw [addr_add] at b1
    exact b1

/-- The faults of a row, the paths before it being prev. -/
def rowErr (path : ByteArray) (mode : Int) (size : Nat) (prev : List ByteArray) : Nat :=
  if goodB (ls path) = false then 9 else if mode < 0 ∨ 3 < mode then 10 else if 180 < size then 4
  else if prev ≠ [] ∧ ltS (prev.getLastD ⟨#[]⟩) path = false then 11
  else if prev.any (fun q => clashB (ls q) (ls path)) = true then 12 else 0

set_option maxRecDepth 100000 in
set_option maxHeartbeats 1000000 in
theorem checkRow_any {w : World} (path : ByteArray) (mode : Int) (size : Nat) (v : Value) (prev : List ByteArray) (h : StrsIn w v prev) (hlen : prev.length ≤ 1000) (hsz : ∀ q ∈ prev, q.size ≤ 12) :
    Calls Tryz.prog 175 #[.string path, .int .i64 mode, .int .i64 size, v] w fun e w' => e = .returned (.int .i64 (rowErr path mode size prev : Nat)) ∧ w = w' := by
  obtain ⟨a, cap, rfl, hc⟩ := h
  have C1 := goodPath_any path w
  unfold rowErr
  cases hg : goodB (ls path) with
  | false =>
    rw [hg] at C1
    have C1 := hide C1
    rw [if_pos rfl]
    clear hg
    go_enter Tryz.func175, Tryz.ntmps175
    go_wp2_with fail
    refine (unhide C1).mono ?_
    rintro e w' ⟨rfl, rfl⟩
    go_wp2_with fail
    go_ret
    exact ⟨rfl, rfl⟩
  | true =>
    rw [hg] at C1
    have C1 := hide C1
    rw [if_neg (by simp)]
    have hp12 : path.size ≤ 12 := by
      have h1 : decide (1 ≤ (ls path).length ∧ (ls path).length ≤ 12) = true := by
        unfold goodB at hg
        simp only [Bool.and_eq_true] at hg
        exact hg.1
      rw [ls_len] at h1
      have := of_decide_eq_true h1
      omega
    by_cases hm : mode < 0 ∨ 3 < mode
    · rw [if_pos hm]
      by_cases h0 : mode < 0
      · have a1 : decide (mode < 0) = true := by simpa using h0
        clear hm h0 hg
        go_enter Tryz.func175, Tryz.ntmps175
        go_wp2_with fail
        refine (unhide C1).mono ?_
        rintro e w' ⟨rfl, rfl⟩
        go_wp2_with fail
        go_ret
        exact ⟨rfl, rfl⟩
      · have a1 : decide (mode < 0) = false := by simpa using h0
        have a2 : decide (3 < mode) = true := by simp; omega
        clear hm h0 hg
        go_enter Tryz.func175, Tryz.ntmps175
        go_wp2_with fail
        refine (unhide C1).mono ?_
        rintro e w' ⟨rfl, rfl⟩
        go_wp2_with fail
        go_ret
        exact ⟨rfl, rfl⟩
    · rw [if_neg hm]
      have a1 : decide (mode < 0) = false := by simp; omega
      have a2 : decide (3 < mode) = false := by simp; omega
      by_cases hs : 180 < size
      · rw [if_pos hs]
        have a3 : decide ((180 : Int) < (size : Int)) = true := by simp; omega
        clear hm hg
        go_enter Tryz.func175, Tryz.ntmps175
        go_wp2_with fail
        refine (unhide C1).mono ?_
        rintro e w' ⟨rfl, rfl⟩
        go_wp2_with fail
        go_ret
        exact ⟨rfl, rfl⟩
      · rw [if_neg hs]
        have a3 : decide ((180 : Int) < (size : Int)) = false := by simp; omega
        by_cases ho : prev ≠ [] ∧ ltS (prev.getLastD ⟨#[]⟩) path = false
        · rw [if_pos ho]
          obtain ⟨hne, hlt⟩ := ho
          have hpos : 0 < prev.length := List.length_pos_iff.2 hne
          obtain ⟨g, rfl, hcell⟩ := hc hpos
          have c0 := hcell (prev.length - 1) (by omega)
          have hlast : prev.getLastD ⟨#[]⟩ = prev[prev.length - 1] := by
            rw [List.getLastD_eq_getLast?, List.getLast?_eq_getElem?, List.getElem?_eq_getElem (by omega)]
            rfl
          rw [hlast] at hlt
          have e1 : Op.bytesLess (prev[prev.length - 1]).toList path.toList = false := hlt
          have b1 : decide ((0 : Int) < (prev.length : Int)) = true := by simp; omega
          have b2 : ((prev.length : Int) - 1).toNat = prev.length - 1 := by omega
          have b3 : (0 : Int) ≤ (prev.length : Int) - 1 := by omega
          have b4 : (prev.length : Int) - 1 < (prev.length : Int) := by omega
          generalize prev[prev.length - 1] = q at *
          clear hm hg hne hlt hcell hlast hsz hc
          generalize hnn : prev.length = n at *
          clear hnn
          go_enter Tryz.func175, Tryz.ntmps175
          go_wp2_with fail
          refine (unhide C1).mono ?_
          rintro e w' ⟨rfl, rfl⟩
          go_wp2_with fail
          go_ret
          exact ⟨rfl, rfl⟩
        · rw [if_neg ho]
          have Hsz := hide hsz
          have hR : ∃ R : Nat, (if prev.any (fun q => clashB (ls q) (ls path)) = true then 12 else 0) = R := ⟨_, rfl⟩
          obtain ⟨R, hR⟩ := hR
          rw [hR]
          have Hyes := hide (show prev.any (fun q => clashB (ls q) (ls path)) = true → R = 12 from fun h => by rw [← hR, if_pos h])
          have Hnot := hide (show prev.any (fun q => clashB (ls q) (ls path)) = false → R = 0 from fun h => by rw [← hR, if_neg (by simp [h])])
          have Hc := hide hc
          clear hR hsz
          by_cases hne : prev = []
          · subst hne
            have HR := hide (unhide Hnot rfl)
            clear hm hg ho hc Hc Hyes Hnot Hsz
            go_enter Tryz.func175, Tryz.ntmps175
            go_wp2_with fail
            refine (unhide C1).mono ?_
            rintro e w' ⟨rfl, rfl⟩
            go_wp2_with fail
            go_loop [9] (fun iv => iv = .int .i64 0) (fun _ => 0)
            case atStart => rfl
            case round =>
              obtain rfl := hrel
              go_wp2_with fail
              go_ret
              rw [unhide HR]
              exact ⟨rfl, rfl⟩
          · have hlt : ltS (prev.getLastD ⟨#[]⟩) path = true := by
              cases h : ltS (prev.getLastD ⟨#[]⟩) path with
              | true => rfl
              | false => exact absurd ⟨hne, h⟩ ho
            have hpos : 0 < prev.length := List.length_pos_iff.2 hne
            obtain ⟨g, rfl, hcell⟩ := hc hpos
            have c0 := hcell (prev.length - 1) (by omega)
            have hlast : prev.getLastD ⟨#[]⟩ = prev[prev.length - 1] := by
              rw [List.getLastD_eq_getLast?, List.getLast?_eq_getElem?, List.getElem?_eq_getElem (by omega)]
              rfl
            rw [hlast] at hlt
            have e1 : Op.bytesLess (prev[prev.length - 1]).toList path.toList = true := hlt
            have b1 : decide ((0 : Int) < (prev.length : Int)) = true := by simp; omega
            have b2 : ((prev.length : Int) - 1).toNat = prev.length - 1 := by omega
            have b3 : (0 : Int) ≤ (prev.length : Int) - 1 := by omega
            have b4 : (prev.length : Int) - 1 < (prev.length : Int) := by omega
            have Hcell := hide hcell
            generalize prev[prev.length - 1] = q at *
            clear hm hg ho hne hlt hcell hlast hc
            go_enter Tryz.func175, Tryz.ntmps175
            go_wp2_with fail
            refine (unhide C1).mono ?_
            rintro e w' ⟨rfl, rfl⟩
            go_wp2_with fail
            clear e1 c0 b2 b3 b4
            go_loop [9] (fun iv => ∃ i : Nat, i ≤ prev.length ∧ iv = .int .i64 i ∧ ∀ j (hj : j < prev.length), j < i → clashB (ls prev[j]) (ls path) = false) (fun iv => prev.length - (intOf iv).toNat)
            case atStart => exact ⟨0, by omega, rfl, fun j hj h => by omega⟩
            case round =>
              obtain ⟨i, hi, rfl, hb⟩ := hrel
              by_cases hil : i < prev.length
              · have c0 := unhide Hcell i hil
                have f1 : decide ((i : Int) < (prev.length : Int)) = true := by simp; omega
                have f2 : (i : Int) < (prev.length : Int) := by omega
                have C2 := clash_any prev[i] path (by have := unhide Hsz prev[i] (List.getElem_mem hil); omega) (by omega) w
                have hmem : prev[i] ∈ prev := List.getElem_mem hil
                cases hcl : clashB (ls prev[i]) (ls path) with
                | true =>
                  rw [hcl] at C2
                  have C2 := hide C2
                  have hany : prev.any (fun q => clashB (ls q) (ls path)) = true := List.any_eq_true.2 ⟨prev[i], hmem, hcl⟩
                  have HR := hide (unhide Hyes hany)
                  clear hcl hany hb hmem
                  generalize prev[i] = q at *
                  go_wp2_with fail
                  refine (unhide C2).mono ?_
                  rintro e w' ⟨rfl, rfl⟩
                  go_wp2_with fail
                  go_ret
                  rw [unhide HR]
                  exact ⟨rfl, rfl⟩
                | false =>
                  rw [hcl] at C2
                  have C2 := hide C2
                  have hnx : ∀ j (hj : j < prev.length), j < i + 1 → clashB (ls prev[j]) (ls path) = false := by
                    intro j hj hlt
                    by_cases e : j = i
                    · subst e; exact hcl
                    · exact hb j hj (by omega)
                  have Hnx := hide hnx
                  clear hcl hnx hb hmem
                  generalize prev[i] = q at *
                  go_wp2_with fail
                  refine (unhide C2).mono ?_
                  rintro e w' ⟨rfl, rfl⟩
                  go_wp2_with fail
                  go_round
                  case rel => exact ⟨i + 1, by omega, by go_num, unhide Hnx⟩
                  case measure => simp [intOf]; omega
              · obtain rfl : i = prev.length := by omega
                have hno : prev.any (fun q => clashB (ls q) (ls path)) = false := by
                  rw [List.any_eq_false]
                  intro q hq
                  obtain ⟨j, hj, rfl⟩ := List.getElem_of_mem hq
                  rw [hb j hj hj]
                  simp
                have HR := hide (unhide Hnot hno)
                have f1 : decide ((prev.length : Int) < (prev.length : Int)) = false := by simp
                clear hno hb
                go_wp2_with fail
                go_ret
                rw [unhide HR]
                exact ⟨rfl, rfl⟩

theorem Tryz.infoStr : (Tryz.prog.info? 9).map (fun i => (i.zero, i.size, i.bytes)) = some (some (.string ⟨#[]⟩), 1, 16) := by kernel_rfl
theorem StrsIn.keep {S : Nat → Prop} {w w' : World} {v : Value} {l : List ByteArray} (h : StrsIn w v l) (ho : Only S w w') (hS : ∀ k, v.ownBlock = some k → ¬ S k) : StrsIn w' v l := by
  obtain ⟨a, cap, rfl, h2⟩ := h
  refine ⟨a, cap, rfl, fun hn => ?_⟩
  obtain ⟨g, rfl, hc⟩ := h2 hn
  have hgl : g < w.heap.size := World.block_lt_of_cell? w _ (hc 0 hn)
  have hb := ho.block g hgl (hS g rfl)
  exact ⟨g, rfl, fun i hi => (World.cell?_of_block hb).trans (hc i hi)⟩

/-- A list of strings that grows. -/
structure SI (w : World) (ov : Value) (outl : List ByteArray) (wr : World) : Prop where
  own : OwnS wr ov outl
  hb : ∀ y, ov.ownBlock = some y → w.heap.size ≤ y
  ho : Only (fun _ => False) w wr
theorem SI.nil (w : World) : SI w (.slice none 0 0) [] w := ⟨World.ownsRow_nil _ _ _ _, fun y hy => by simp [Value.ownBlock] at hy, Only.refl _ _⟩
theorem SI.quiet {w : World} {ov : Value} {outl : List ByteArray} {wr w' : World} (h : SI w ov outl wr) (ho : Only (fun _ => False) wr w') : SI w ov outl w' :=
  ⟨ownsRow_keep h.own ho (fun _ _ h => h), h.hb, h.ho.trans ho (fun _ _ h => h)⟩
theorem SI.push {w : World} {ov v' : Value} {outl : List ByteArray} {wr w' : World} {o : Obj} {n : Nat} (h : SI w ov outl wr) (f : ByteArray) (hown : w'.ownsRow 0 9 1 v' n (outl.map Value.string ++ [.string f])) (hn : n = outl.length + 1)
    (hgrow : (wr.alloc o).grownBy w' ov.ownBlock) (hwhere : ∀ k, v'.ownBlock = some k → ov.ownBlock = some k ∨ k = wr.heap.size + 1) : SI w v' (outl ++ [f]) w' := by
  have hs := h.ho.size
  subst hn
  refine ⟨?_, fun y hy => ?_, (h.ho.alloc _).grown hgrow (fun b hb hlt => by have := h.hb b hb; omega)⟩
  · unfold OwnS
    rw [List.map_append, List.length_append]
    exact hown
  · rcases hwhere y hy with e | e
    · exact h.hb y e
    · omega

theorem rowErr_good {path : ByteArray} {mode : Int} {size : Nat} {prev : List ByteArray} (h : rowErr path mode size prev = 0) : goodB (ls path) = true := by
  unfold rowErr at h
  cases hg : goodB (ls path) with
  | true => rfl
  | false => rw [hg, if_pos rfl] at h; omega
theorem goodB_size {p : ByteArray} (h : goodB (ls p) = true) : 1 ≤ p.size ∧ p.size ≤ 12 := by
  unfold goodB at h
  simp only [Bool.and_eq_true] at h
  have := of_decide_eq_true h.1
  rw [ls_len] at this
  exact this

end Go.Proofs.Qxb6500417aGreat
