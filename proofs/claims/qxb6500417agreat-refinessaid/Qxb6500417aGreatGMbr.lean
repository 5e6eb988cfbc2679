/-
  OWN WORK. THE TREE: Members, the real side.
-/
import Derived.Test.Qxb6500417aGreatTMk
import Derived.Test.Qxb6500417aGreatGInt
namespace Go.Proofs.Qxb6500417aGreat
open Go.RowKit Go.PlainAid
set_option linter.unusedSimpArgs false
set_option linter.unusedVariables false

theorem Tryz.infoBoolU : (Tryz.prog.info? 4).map (fun i => (i.zero, i.size, i.bytes)) = some (some (.bool false), 1, 1) := by kernel_rfl
theorem run_make_boolsN (w : World) (n : Nat) (hn : n ≤ 1000000) : (Instr.makeSlice 200 (.int .i64 n) (.int .i64 n)).run Tryz.prog w = .ok (.slice (some ⟨w.heap.size, 0, none⟩) n n) (w.alloc (.cells (tabV n (bF (fun _ => false))) 4)) := by
  obtain ⟨i, hi, hz, hs, hb⟩ := info_parts Tryz.infoBoolU
  have := run_make (P := Tryz.prog) w 200 4 i _ Tryz.underlying200 hi hz .i64 .i64 (n : Int) (n : Int) (by omega) (by omega) (by rw [hb]; omega) (by omega)
  rw [this]
  have e : tabV n (bF (fun _ => false)) = Array.replicate n (Value.bool false) := by
    apply Array.ext'
    unfold tabV bF
    apply List.ext_getElem (by simp)
    intro j h1 h2
    simp
  simp [hs, Value.cells, madeCells_oneO, e]
theorem run_make_bools (w : World) : (Instr.makeSlice 200 (.int .i64 49) (.int .i64 49)).run Tryz.prog w = .ok (.slice (some ⟨w.heap.size, 0, none⟩) 49 49) (w.alloc (.cells (tabV 49 (bF (fun _ => false))) 4)) := run_make_boolsN w 49 (by omega)
/-- The numbers below k that are marked. -/
def memL (s : Nat → Bool) : Nat → List Int
  | 0 => []
  | k + 1 => memL s k ++ (if k ≠ 0 ∧ s k = true then [(k : Int)] else [])
theorem memL_len (s : Nat → Bool) : ∀ k, (memL s k).length ≤ k
  | 0 => by simp [memL]
  | k + 1 => by
    have := memL_len s k
    unfold memL
    rw [List.length_append]
    split <;> simp <;> omega
theorem memL_one (s : Nat → Bool) : memL s 1 = [] := by simp [memL]
/-- A row of numbers that was made. -/
structure II (w : World) (v : Value) (l : List Int) (w' : World) : Prop where
  own : OwnI w' v l
  hb : ∀ y, v.ownBlock = some y → w.heap.size ≤ y
  ho : Only (fun _ => False) w w'
theorem II.nil (w : World) : II w (.slice none 0 0) [] w := ⟨OwnI.nil w, fun y hy => by simp [Value.ownBlock] at hy, Only.refl _ _⟩
def mbL (J : Nat → Sl) (id : Int) : List Int := if trE J id = 0 then memL (markP 6 J id.toNat (fun _ => false)) 49 else []

section
variable {w : World} {t s d rt : Nat} {D B : Nat → Nat} {recs : List Rec} {J : Nat → Sl} {F : Nat → Prop}
set_option maxRecDepth 100000 in
set_option maxHeartbeats 2000000 in
theorem tmembers_any (h : TS w t s d D B recs J rt F) (id : Int) :
    Calls Tryz.prog 181 #[.pointer (some ⟨t, 0, none⟩), .int .i64 id] w fun e w' => ∃ v, e = .returned (.tuple #[v, .int .i64 (trE J id : Nat)]) ∧ II w v (mbL J id) w' := by
  have C1 : Calls Tryz.prog 195 #[.pointer (some ⟨t, 0, none⟩), .int .i64 id] w fun e w' => e = .returned (.int .i64 (trE J id : Nat)) ∧ w = w' := h.isTree_any id
  by_cases he : trE J id = 0
  · obtain ⟨i, rfl, hi, hl, hk⟩ := trE_zero he
    have hL : mbL J (i : Int) = memL (markP 6 J i (fun _ => false)) 49 := by unfold mbL; rw [if_pos he]; simp
    rw [hL]
    rw [he] at C1
    rw [he]
    obtain ⟨z1, z2, z3⟩ := h.ts_lt
    have S1 : SeenAt (w.alloc (.cells (tabV 49 (bF (fun _ => false))) 4)) w.heap.size (fun _ => false) := Has.new w _ _
    have o1 : Only (fun _ => False) w (w.alloc (.cells (tabV 49 (bF (fun _ => false))) 4)) := (Only.refl _ w).alloc _
    have C2 := tmark_any (F := F) w.heap.size (by omega) (by omega) (fun hF => by have := z3 _ hF; omega) 6 _ i (fun _ => false) 6 rfl (by omega) (h.quiet o1) hi hl hk S1
    have hmk := run_make_bools w
    have C1 := hide C1
    have C2 := hide C2
    have O1 := hide o1
    clear h hL he S1 o1 z3
    generalize markP 6 J i (fun _ => false) = sn at *
    generalize tabV 49 (bF (fun _ => false)) = zz at *
    go_enter Tryz.func181, Tryz.ntmps181
    go_wp2_with fail
    refine (unhide C1).mono ?_
    rintro e w1 ⟨rfl, rfl⟩
    go_wp2_with fail
    refine (unhide C2).mono ?_
    rintro e w2 ⟨rfl, hS2, ho2⟩
    have S2 := hide hS2
    have O2 : Hid (Only (fun _ => False) w w2) := hide ((unhide O1).trans ho2 (fun y hy e => by omega))
    clear hS2 ho2 C1 C2 O1 hmk
    generalize w.heap.size = g at *
    generalize w.alloc (.cells zz 4) = w1 at *
    have dummy : True := trivial

    go_wp2_with fail
    go_loopw [8, 9] (fun ov kv wr => ∃ k : Nat, 1 ≤ k ∧ k ≤ 49 ∧ kv = .int .i64 k ∧ OwnI wr ov (memL sn k) ∧ (∀ y, ov.ownBlock = some y → w2.heap.size ≤ y) ∧ Only (fun _ => False) w2 wr) (fun _ kv _ => (49 - intOf kv).toNat)
    case atStart => exact ⟨1, by omega, by omega, rfl, by rw [memL_one]; exact OwnI.nil w2, fun y hy => by simp [Value.ownBlock] at hy, Only.refl _ _⟩
    case round =>
      obtain ⟨k, hk1, hk, rfl, hown, hb, ho⟩ := hrel
      by_cases hk8 : k < 49
      · have hS := Has.keep (unhide S2) ho (fun h => h)
        have c := (SeenAt.cell hS k hk8).1
        have a1 : decide ((k : Int) ≤ 48) = true := by simp; omega
        have a2 : (k : Int) < 49 := by omega
        have hml := memL_len sn k
        have hsu : memL sn (k + 1) = memL sn k ++ (if k ≠ 0 ∧ sn k = true then [(k : Int)] else []) := rfl
        have hk0 : k ≠ 0 := by omega
        have hws := ho.size
        clear hS
        cases hsk : sn k with
        | false =>
          rw [hsk] at c hsu
          rw [if_neg (by simp), List.append_nil] at hsu
          rw [← hsu] at hown
          have Hown := hide hown
          clear hown hsu hsk
          go_wp2_with fail
          go_roundw
          case rel => exact ⟨k + 1, by omega, by omega, by go_num, unhide Hown, hb, ho⟩
          case measure => simp [intOf]; omega
        | true =>
          rw [hsk] at c hsu
          rw [if_pos ⟨hk0, rfl⟩] at hsu
          unfold OwnI at hown
          have Hsu := hide hsu
          have hsn := iV_snoc (memL sn k) (k : Int)
          rw [← hsu] at hsn
          have Hsn := hide hsn
          have Hb := hide hb
          have hl2 : (memL sn (k + 1)).length = (memL sn k).length + 1 := by rw [hsu]; simp
          have Hl2 := hide hl2
          clear hsu hsn hb hsk hl2
          generalize (memL sn k).length = L at *
          generalize iV (memL sn k) = xs at *
          obtain ⟨i0, hi0, hz0, hz1, hz2⟩ := info_parts Tryz.infoIntU
          go_wp2_with (at_builtin; refine wpList_append2 _ rfl _ _ 91 rfl 3 i0 _ 1 8 Tryz.underlying91 hi0 hz0 hz1 hz2 rfl (by decide) _ _ _ rfl (hown.alloc _) ⟨wr.heap.size, 0, none⟩ 1 1 [.int .i64 (k : Int)] rfl rfl ?c1 ?c2 ?c3 ?c4 ?_)
          try (case c1 => exact news_ok _ _ _ _ rfl)
          case c2 => intro u hu; simp at hu; subst hu; rfl
          case c3 => unfold maxLen; omega
          case c4 => omega
          intro v' w4 hown' hgrow hwhere
          have o4 : Only (fun _ => False) w2 w4 := (ho.alloc _).grown hgrow (fun b hb hlt => by have := unhide Hb b hb; omega)
          have Hw := hide hwhere
          have Ho := hide hown'
          clear hwhere hown'
          go_wp2_with fail
          go_roundw
          case rel =>
            refine ⟨k + 1, by omega, by omega, by go_num, ?_, ?_, o4⟩
            · unfold OwnI
              rw [unhide Hl2, unhide Hsn]
              exact unhide Ho
            · intro b hb'
              rcases unhide Hw b hb' with e | e
              · exact unhide Hb b e
              · try simp at e
                omega
          case measure => simp [intOf]; omega
      · obtain rfl : k = 49 := by omega
        have Ho := hide hown
        have Hb := hide hb
        have HO2 := hide ((unhide O2).trans ho (fun _ _ h => h))
        have hs2 := (unhide O2).size
        clear hown hb
        go_wp2_with fail
        refine bodyPost_ret (v := .tuple #[u8, .int .i64 0]) (by simp [results, Tryz.results181, go_sem]) rfl ?_
        exact ⟨_, rfl, unhide Ho, fun y hy => by have := unhide Hb y hy; omega, unhide HO2⟩
  · have hL : mbL J id = [] := by unfold mbL; rw [if_neg he]
    rw [hL]
    generalize trE J id = x at *
    have e1 : ((x : Int) != 0) = true := by simp; omega
    have C1 := hide C1
    clear h hL
    go_enter Tryz.func181, Tryz.ntmps181
    go_wp2_with fail
    refine (unhide C1).mono ?_
    rintro e w1 ⟨rfl, rfl⟩
    go_wp2_with fail
    refine bodyPost_ret (v := .tuple #[.slice none 0 0, .int .i64 (x : Int)]) (by simp [results, Tryz.results181, go_sem]) rfl ?_
    exact ⟨_, rfl, II.nil w⟩
end
end Go.Proofs.Qxb6500417aGreat
