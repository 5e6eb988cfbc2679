/-
  OWN WORK. THE INDEX: api's Without, checkRow, CheckFiles.
-/
import Derived.Test.Qxb6500418aIApi2
namespace Go.Proofs.Qxb6500418a
open Go.RowKit Go.PlainAid
set_option linter.unusedSimpArgs false
set_option linter.unusedVariables false

/-- A list of files that grows. -/
structure GI (w : World) (ov : Value) (outl : List Fl) (wr : World) : Prop where
  own : OwnF wr ov outl
  hb : ∀ y, ov.ownBlock = some y → w.heap.size ≤ y
  ho : Only (fun _ => False) w wr
theorem GI.nil (w : World) : GI w (.slice none 0 0) [] w := ⟨OwnF.nil _, fun y hy => by simp [Value.ownBlock] at hy, Only.refl _ _⟩
theorem GI.quiet {w : World} {ov : Value} {outl : List Fl} {wr w' : World} (h : GI w ov outl wr) (ho : Only (fun _ => False) wr w') : GI w ov outl w' :=
  ⟨h.own.keep ho (fun _ _ h => h), h.hb, h.ho.trans ho (fun _ _ h => h)⟩
theorem GI.push {w : World} {ov v' : Value} {outl : List Fl} {wr w' : World} {o : Obj} {n : Nat} (h : GI w ov outl wr) (f : Fl) (hown : w'.ownsRow 0 40 3 v' n (flCells outl ++ [.string f.path, .string f.data, .int .i64 f.mode])) (hn : n = outl.length + 1)
    (hgrow : (wr.alloc o).grownBy w' ov.ownBlock) (hwhere : ∀ k, v'.ownBlock = some k → ov.ownBlock = some k ∨ k = wr.heap.size + 1) : GI w v' (outl ++ [f]) w' := by
  have hs := h.ho.size
  subst hn
  refine ⟨OwnF.push hown, fun y hy => ?_, (h.ho.alloc _).grown hgrow (fun b hb hlt => by have := h.hb b hb; omega)⟩
  rcases hwhere y hy with e | e
  · exact h.hb y e
  · omega

def withoutL (l : List Fl) (p : ByteArray) : List Fl := l.filter (fun f => !decide (f.path = p))
set_option maxRecDepth 100000 in
set_option maxHeartbeats 1000000 in
theorem without_any {w : World} (v : Value) (l : List Fl) (p : ByteArray) (h : FilesIn w v l) (hlen : l.length ≤ 1000) :
    Calls Try.prog 47 #[v, .string p] w fun e w' => ∃ v', e = .returned v' ∧ OwnF w' v' (withoutL l p) ∧ (∀ y, v'.ownBlock = some y → w.heap.size ≤ y) ∧ Only (fun _ => False) w w' := by
  obtain ⟨a, cap, rfl, hc⟩ := h
  obtain ⟨i0, hi0, hz0, hz1, hz2⟩ := info_parts Try.infoFile
  have Hc := hide hc
  have H0 := hide (GI.nil w)
  clear hc
  go_enter Try.func47, Try.ntmps47
  go_wp2_with fail
  go_loopw [5, 6] (fun ov iv wr => ∃ i : Nat, i ≤ l.length ∧ iv = .int .i64 i ∧ GI w ov (withoutL (l.take i) p) wr) (fun _ iv _ => l.length - (intOf iv).toNat)
  case atStart => exact ⟨0, by omega, rfl, unhide H0⟩
  case round =>
    clear H0
    obtain ⟨i, hi, rfl, hI⟩ := hrel
    by_cases hil : i < l.length
    · obtain ⟨g, rfl, hcell⟩ := unhide Hc (by omega)
      obtain ⟨c0, c1, c2⟩ := hcell i hil
      have hgl : g < w.heap.size := World.block_lt_of_cell? w _ c0
      have hbk := hI.ho.block g hgl (fun h => h)
      have c0 := (World.cell?_of_block hbk).trans c0
      have c1 := (World.cell?_of_block hbk).trans c1
      have c2 := (World.cell?_of_block hbk).trans c2
      have a1 : decide ((i : Int) < (l.length : Int)) = true := by simp; omega
      have a2 : (i : Int) < (l.length : Int) := by omega
      have hsn : withoutL (l.take (i + 1)) p = withoutL (l.take i) p ++ (if l[i].path = p then [] else [l[i]]) := by
        unfold withoutL
        rw [List.take_succ_eq_append_getElem hil, List.filter_append]
        by_cases h : l[i].path = p
        · simp [h]
        · simp [h]
      have hll : (withoutL (l.take i) p).length ≤ i := by
        have h1 := List.length_filter_le (fun f : Fl => !decide (f.path = p)) (l.take i)
        rw [List.length_take] at h1
        unfold withoutL
        omega
      have hws := hI.ho.size
      have hgw : g < wr.heap.size := by omega
      clear hcell hbk
      generalize l[i] = li at *
      by_cases hp : li.path = p
      · rw [if_pos hp, List.append_nil] at hsn
        rw [← hsn] at hI
        have e1 : (li.path.toList == p.toList) = true := by rw [hp]; simp
        have HI := hide hI
        clear hI hsn hp
        go_wp2_with fail
        go_roundw
        case rel => exact ⟨i + 1, by omega, by go_num, unhide HI⟩
        case measure => simp [intOf]; omega
      · rw [if_neg hp] at hsn
        have e1 := str_ne hp
        have own4 : wr.ownsRow 0 40 3 _ _ _ := hI.own
        have HI := hide hI
        have Hsn := hide hsn
        clear hI hsn hp
        generalize withoutL (l.take i) p = outl at *
        go_wp2_with (at_builtin; refine wpList_append2 _ rfl _ _ 34 rfl 40 i0 _ 3 40 Try.underlying34 hi0 hz0 hz1 hz2 rfl (by decide) _ _ _ rfl (own4.alloc _) ⟨wr.heap.size, 0, none⟩ 1 1 [.string li.path, .string li.data, .int .i64 li.mode] rfl rfl ?c1 ?c2 ?c3 ?c4 ?_)
        try (case c1 => exact news_ok _ _ _ _ rfl)
        case c2 => intro u hu; simp at hu; rcases hu with rfl | rfl | rfl <;> rfl
        case c3 => unfold maxLen; omega
        case c4 => omega
        intro v4 w4 hown' hgrow hwhere
        have h4 := (unhide HI).push li hown' (by first | rfl | simp) hgrow hwhere
        rw [← unhide Hsn] at h4
        have H4 := hide h4
        clear hown' hgrow hwhere own4 HI h4
        go_wp2_with fail
        go_roundw
        case rel => exact ⟨i + 1, by omega, by go_num, unhide H4⟩
        case measure => simp [intOf]; omega
    · obtain rfl : i = l.length := by omega
      rw [List.take_length] at hI
      have HI := hide hI
      have a1 : decide ((l.length : Int) < (l.length : Int)) = false := by simp
      clear hI
      go_wp2_with fail
      go_ret
      exact ⟨_, rfl, (unhide HI).own, (unhide HI).hb, (unhide HI).ho⟩

/-- A list of strings in an array of its own. -/
def OwnS (w : World) (v : Value) (l : List ByteArray) : Prop := w.ownsRow 0 9 1 v l.length (l.map Value.string)
def StrsIn (w : World) (v : Value) (l : List ByteArray) : Prop := ∃ a cap, v = .slice a l.length cap ∧ (0 < l.length → ∃ g, a = some ⟨g, 0, none⟩ ∧ ∀ i (h : i < l.length), w.cell? ⟨g, i, none⟩ = some (.string l[i]))
theorem OwnS.in_ {w : World} {v : Value} {l : List ByteArray} (h : OwnS w v l) : StrsIn w v l := by
  obtain ⟨a, cap, rfl⟩ := ownsRow_shape h
  refine ⟨a, cap, rfl, fun hn => ?_⟩
  rcases h.2 with ⟨he, h0⟩ | ⟨g, cap', cur, he, _⟩
  · omega
  · obtain ⟨rfl, _, _⟩ : a = some ⟨g, 0, none⟩ ∧ True ∧ cap = cap' := by simpa using he
    refine ⟨g, rfl, fun i hi => ?_⟩
    have hc := World.ownsRow.cells h (g := g) (by first | exact rfl | simp [Value.ownBlock])
    have b1 := hc i (.string l[i]) (by simp [hi])
    rw [addr_add] at b1
    exact b1

/-- The faults of a row, the paths before it being prev. -/
def rowErr (path : ByteArray) (mode : Int) (size : Nat) (prev : List ByteArray) : Nat :=
  if goodB (ls path) = false then 9 else if mode < 0 ∨ 3 < mode then 10 else if 180 < size then 4
  else if prev ≠ [] ∧ ltS (prev.getLastD ⟨#[]⟩) path = false then 11
  else if prev.any (fun q => clashB (ls q) (ls path)) = true then 12 else 0

set_option maxRecDepth 100000 in
set_option maxHeartbeats 1000000 in
theorem checkRow_any {w : World} (path : ByteArray) (mode : Int) (size : Nat) (v : Value) (prev : List ByteArray) (h : StrsIn w v prev) (hlen : prev.length ≤ 1000) (hsz : ∀ q ∈ prev, q.size ≤ 12) :
    Calls Try.prog 54 #[.string path, .int .i64 mode, .int .i64 size, v] w fun e w' => e = .returned (.int .i64 (rowErr path mode size prev : Nat)) ∧ w = w' := by
  obtain ⟨a, cap, rfl, hc⟩ := h
  have C1 := goodPath_any path w
  unfold rowErr
  cases hg : goodB (ls path) with
  | false =>
    rw [hg] at C1
    have C1 := hide C1
    rw [if_pos rfl]
    clear hg
    go_enter Try.func54, Try.ntmps54
    go_wp2_with fail
    refine (unhide C1).mono ?_
    rintro e w' ⟨rfl, rfl⟩
    go_wp2_with fail
    go_ret
    exact ⟨rfl, rfl⟩
  | true =>
    rw [hg] at C1
    have C1 := hide C1
    rw [if_neg (by simp)]
    have hp12 : path.size ≤ 12 := by
      have h1 : decide (1 ≤ (ls path).length ∧ (ls path).length ≤ 12) = true := by
        unfold goodB at hg
        simp only [Bool.and_eq_true] at hg
        exact hg.1
      rw [ls_len] at h1
      have := of_decide_eq_true h1
      omega
    by_cases hm : mode < 0 ∨ 3 < mode
    · rw [if_pos hm]
      by_cases h0 : mode < 0
      · have a1 : decide (mode < 0) = true := by simpa using h0
        clear hm h0 hg
        go_enter Try.func54, Try.ntmps54
        go_wp2_with fail
        refine (unhide C1).mono ?_
        rintro e w' ⟨rfl, rfl⟩
        go_wp2_with fail
        go_ret
        exact ⟨rfl, rfl⟩
      · have a1 : decide (mode < 0) = false := by simpa using h0
        have a2 : decide (3 < mode) = true := by simp; omega
        clear hm h0 hg
        go_enter Try.func54, Try.ntmps54
        go_wp2_with fail
        refine (unhide C1).mono ?_
        rintro e w' ⟨rfl, rfl⟩
        go_wp2_with fail
        go_ret
        exact ⟨rfl, rfl⟩
    · rw [if_neg hm]
      have a1 : decide (mode < 0) = false := by simp; omega
      have a2 : decide (3 < mode) = false := by simp; omega
      by_cases hs : 180 < size
      · rw [if_pos hs]
        have a3 : decide ((180 : Int) < (size : Int)) = true := by simp; omega
        clear hm hg
        go_enter Try.func54, Try.ntmps54
        go_wp2_with fail
        refine (unhide C1).mono ?_
        rintro e w' ⟨rfl, rfl⟩
        go_wp2_with fail
        go_ret
        exact ⟨rfl, rfl⟩
      · rw [if_neg hs]
        have a3 : decide ((180 : Int) < (size : Int)) = false := by simp; omega
        by_cases ho : prev ≠ [] ∧ ltS (prev.getLastD ⟨#[]⟩) path = false
        · rw [if_pos ho]
          obtain ⟨hne, hlt⟩ := ho
          have hpos : 0 < prev.length := List.length_pos_iff.2 hne
          obtain ⟨g, rfl, hcell⟩ := hc hpos
          have c0 := hcell (prev.length - 1) (by omega)
          have hlast : prev.getLastD ⟨#[]⟩ = prev[prev.length - 1] := by
            rw [List.getLastD_eq_getLast?, List.getLast?_eq_getElem?, List.getElem?_eq_getElem (by omega)]
            rfl
          rw [hlast] at hlt
          have e1 : Op.bytesLess (prev[prev.length - 1]).toList path.toList = false := hlt
          have b1 : decide ((0 : Int) < (prev.length : Int)) = true := by simp; omega
          have b2 : ((prev.length : Int) - 1).toNat = prev.length - 1 := by omega
          have b3 : (0 : Int) ≤ (prev.length : Int) - 1 := by omega
          have b4 : (prev.length : Int) - 1 < (prev.length : Int) := by omega
          generalize prev[prev.length - 1] = q at *
          clear hm hg hne hlt hcell hlast hsz hc
          generalize hnn : prev.length = n at *
          clear hnn
          go_enter Try.func54, Try.ntmps54
          go_wp2_with fail
          refine (unhide C1).mono ?_
          rintro e w' ⟨rfl, rfl⟩
          go_wp2_with fail
          go_ret
          exact ⟨rfl, rfl⟩
        · rw [if_neg ho]
          have Hsz := hide hsz
          have hR : ∃ R : Nat, (if prev.any (fun q => clashB (ls q) (ls path)) = true then 12 else 0) = R := ⟨_, rfl⟩
          obtain ⟨R, hR⟩ := hR
          rw [hR]
          have Hyes := hide (show prev.any (fun q => clashB (ls q) (ls path)) = true → R = 12 from fun h => by rw [← hR, if_pos h])
          have Hnot := hide (show prev.any (fun q => clashB (ls q) (ls path)) = false → R = 0 from fun h => by rw [← hR, if_neg (by simp [h])])
          have Hc := hide hc
          clear hR hsz
          by_cases hne : prev = []
          · subst hne
            have HR := hide (unhide Hnot rfl)
            clear hm hg ho hc Hc Hyes Hnot Hsz
            go_enter Try.func54, Try.ntmps54
            go_wp2_with fail
            refine (unhide C1).mono ?_
            rintro e w' ⟨rfl, rfl⟩
            go_wp2_with fail
            go_loop [9] (fun iv => iv = .int .i64 0) (fun _ => 0)
            case atStart => rfl
            case round =>
              obtain rfl := hrel
              go_wp2_with fail
              go_ret
              rw [unhide HR]
              exact ⟨rfl, rfl⟩
          · have hlt : ltS (prev.getLastD ⟨#[]⟩) path = true := by
              cases h : ltS (prev.getLastD ⟨#[]⟩) path with
              | true => rfl
              | false => exact absurd ⟨hne, h⟩ ho
            have hpos : 0 < prev.length := List.length_pos_iff.2 hne
            obtain ⟨g, rfl, hcell⟩ := hc hpos
            have c0 := hcell (prev.length - 1) (by omega)
            have hlast : prev.getLastD ⟨#[]⟩ = prev[prev.length - 1] := by
              rw [List.getLastD_eq_getLast?, List.getLast?_eq_getElem?, List.getElem?_eq_getElem (by omega)]
              rfl
            rw [hlast] at hlt
            have e1 : Op.bytesLess (prev[prev.length - 1]).toList path.toList = true := hlt
            have b1 : decide ((0 : Int) < (prev.length : Int)) = true := by simp; omega
            have b2 : ((prev.length : Int) - 1).toNat = prev.length - 1 := by omega
            have b3 : (0 : Int) ≤ (prev.length : Int) - 1 := by omega
            have b4 : (prev.length : Int) - 1 < (prev.length : Int) := by omega
            have Hcell := hide hcell
            generalize prev[prev.length - 1] = q at *
            clear hm hg ho hne hlt hcell hlast hc
            go_enter Try.func54, Try.ntmps54
            go_wp2_with fail
            refine (unhide C1).mono ?_
            rintro e w' ⟨rfl, rfl⟩
            go_wp2_with fail
            clear e1 c0 b2 b3 b4
            go_loop [9] (fun iv => ∃ i : Nat, i ≤ prev.length ∧ iv = .int .i64 i ∧ ∀ j (hj : j < prev.length), j < i → clashB (ls prev[j]) (ls path) = false) (fun iv => prev.length - (intOf iv).toNat)
            case atStart => exact ⟨0, by omega, rfl, fun j hj h => by omega⟩
            case round =>
              obtain ⟨i, hi, rfl, hb⟩ := hrel
              by_cases hil : i < prev.length
              · have c0 := unhide Hcell i hil
                have f1 : decide ((i : Int) < (prev.length : Int)) = true := by simp; omega
                have f2 : (i : Int) < (prev.length : Int) := by omega
                have C2 := clash_any prev[i] path (by have := unhide Hsz prev[i] (List.getElem_mem hil); omega) (by omega) w
                have hmem : prev[i] ∈ prev := List.getElem_mem hil
                cases hcl : clashB (ls prev[i]) (ls path) with
                | true =>
                  rw [hcl] at C2
                  have C2 := hide C2
                  have hany : prev.any (fun q => clashB (ls q) (ls path)) = true := List.any_eq_true.2 ⟨prev[i], hmem, hcl⟩
                  have HR := hide (unhide Hyes hany)
                  clear hcl hany hb hmem
                  generalize prev[i] = q at *
                  go_wp2_with fail
                  refine (unhide C2).mono ?_
                  rintro e w' ⟨rfl, rfl⟩
                  go_wp2_with fail
                  go_ret
                  rw [unhide HR]
                  exact ⟨rfl, rfl⟩
                | false =>
                  rw [hcl] at C2
                  have C2 := hide C2
                  have hnx : ∀ j (hj : j < prev.length), j < i + 1 → clashB (ls prev[j]) (ls path) = false := by
                    intro j hj hlt
                    by_cases e : j = i
                    · subst e; exact hcl
                    · exact hb j hj (by omega)
                  have Hnx := hide hnx
                  clear hcl hnx hb hmem
                  generalize prev[i] = q at *
                  go_wp2_with fail
                  refine (unhide C2).mono ?_
                  rintro e w' ⟨rfl, rfl⟩
                  go_wp2_with fail
                  go_round
                  case rel => exact ⟨i + 1, by omega, by go_num, unhide Hnx⟩
                  case measure => simp [intOf]; omega
              · obtain rfl : i = prev.length := by omega
                have hno : prev.any (fun q => clashB (ls q) (ls path)) = false := by
                  rw [List.any_eq_false]
                  intro q hq
                  obtain ⟨j, hj, rfl⟩ := List.getElem_of_mem hq
                  rw [hb j hj hj]
                  simp
                have HR := hide (unhide Hnot hno)
                have f1 : decide ((prev.length : Int) < (prev.length : Int)) = false := by simp
                clear hno hb
                go_wp2_with fail
                go_ret
                rw [unhide HR]
                exact ⟨rfl, rfl⟩

def chkF : List Fl → List ByteArray → Nat
  | [], _ => 0
  | f :: r, prev => if rowErr f.path f.mode f.data.size prev = 0 then chkF r (prev ++ [f.path]) else rowErr f.path f.mode f.data.size prev
def checkF (l : List Fl) : Nat := if 8 < l.length then 8 else chkF l []
end Go.Proofs.Qxb6500418a
