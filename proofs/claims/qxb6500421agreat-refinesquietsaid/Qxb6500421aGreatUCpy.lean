/-
  OWN WORK. THE TREE MODEL: copies, comparisons, the lowest free slot, Free.
-/
import Derived.Test.Qxb6500421aGreatUMem
import Derived.Laws.StructEq
namespace Go.Proofs.Qxb6500421aGreat
open Go.RowKit Go.PlainAid
set_option linter.unusedSimpArgs false
set_option linter.unusedVariables false

theorem Tryz.infoIntU : (Tryz.prog.info? 3).map (fun i => (i.zero, i.size, i.bytes)) = some (some (.int .i64 0), 1, 8) := by kernel_rfl
theorem setRow_allocO (w : World) (c d : Array Value) (t : TypeId) : (w.alloc (.cells c t)).setRow w.heap.size d = w.alloc (.cells d t) := by
  unfold World.setRow World.alloc
  congr 1
  apply Array.ext_getElem?
  intro k
  simp only [Array.getElem?_modify, Array.getElem?_push]
  by_cases hk : k = w.heap.size
  · subst hk; simp
  · simp [hk]; intro h; omega
theorem Tryz.sizeU8o : (Tryz.prog.info? 5).map (·.size) = some 1 := by
  obtain ⟨i, hi, hz, hs, hb⟩ := info_parts Tryz.infoU8o
  rw [hi]; simp [hs]
set_option maxRecDepth 100000 in
theorem run_copy_bytes (w : World) (n : Nat) (a : Option Addr) (cap : Nat) (x : Nat → Nat) (h : BytesAt w (.slice a n cap) n x) (ty : TypeId) :
    (Builtin.copy_ #[54, 54] ty #[.slice (some ⟨w.heap.size, 0, none⟩) n n, .slice a n cap]).run Tryz.prog (w.alloc (.cells (tabV n (u8f (fun _ => 0))) 5)) = .ok (goInt n) (w.alloc (.cells (tabV n (u8f x)) 5)) := by
  by_cases hn : n = 0
  · subst hn
    rw [run_copy_none (P := Tryz.prog) _ 54 54 ty 5 _ _ 0 0 0 cap Tryz.underlying54 Tryz.sizeU8o (by simp)]
    rfl
  · obtain ⟨a', cap', e, h2⟩ := h
    obtain ⟨rfl, _, rfl⟩ : a = a' ∧ n = n ∧ cap = cap' := by simpa using e
    obtain ⟨g, rfl, hc⟩ := h2 (by omega)
    have h := run_copy_row (P := Tryz.prog) (w.alloc (.cells (tabV n (u8f (fun _ => 0))) 5)) 54 54 ty 5 w.heap.size 0 n n ⟨g, 0, none⟩ n cap (tabV n (u8f (fun _ => 0))) 5 ((List.range n).map (u8f x))
      Tryz.underlying54 Tryz.sizeU8o (heap_alloc_new w _) (by simp) ?_ (by simp [tabV]) ?_
    · rw [h, setRow_allocO]
      have e1 : ((List.range n).map (u8f x)).length = n := by simp
      rw [e1]
      congr 3
      simp [tabV]
    · intro j v hv
      have hj : j < n := by
        by_cases hj : j < n
        · exact hj
        · rw [List.getElem?_eq_none (by simp; omega)] at hv; cases hv
      rw [addr_add]
      have hgl : g < w.heap.size := World.block_lt_of_cell? w _ (hc j hj)
      have e2 : (w.alloc (.cells (tabV n (u8f (fun _ => 0))) 5)).cell? ⟨g, j, none⟩ = w.cell? ⟨g, j, none⟩ := World.cell?_of_block (Below.heap_alloc _ _ _ hgl)
      rw [e2, hc j hj]
      simp [hj] at hv
      rw [← hv]; rfl
    · intro v hv
      simp at hv
      obtain ⟨b, _, rfl⟩ := hv
      rfl
set_option maxRecDepth 100000 in
theorem copyBytes_any {w : World} (v : Value) (n : Nat) (x : Nat → Nat) (h : BytesAt w v n x) (hn : n ≤ 1000000) :
    Calls Tryz.prog 47 #[v] w fun e w' => e = .returned (.slice (some ⟨w.heap.size, 0, none⟩) n n) ∧ w' = w.alloc (.cells (tabV n (u8f x)) 5) := by
  have h0 := h
  obtain ⟨a, cap, rfl, h2⟩ := h
  have hmk := run_make_bytes w n hn
  have hcp := run_copy_bytes w n a cap x h0
  go_enter Tryz.func47, Tryz.ntmps47
  go_wp2
  go_ret
  exact ⟨rfl, rfl⟩

set_option maxRecDepth 100000 in
set_option maxHeartbeats 1000000 in
theorem ucopyList_any {w : World} (v : Value) (l : List En) (h : EntsIn w v l) (hlen : l.length ≤ 1000) :
    Calls Tryz.prog 48 #[v] w fun e w' => ∃ v', e = .returned v' ∧ OwnE w' v' l ∧ (∀ y, v'.ownBlock = some y → w.heap.size ≤ y) ∧ Only (fun _ => False) w w' := by
  obtain ⟨a, cap, rfl, hc⟩ := h
  obtain ⟨i0, hi0, hz0, hz1, hz2⟩ := info_parts Tryz.infoEntry
  have Hc := hide hc
  have H0 := hide (OwnE.nil w)
  clear hc
  go_enter Tryz.func48, Tryz.ntmps48
  go_wp2_with fail
  go_loopw [3, 4] (fun ov iv wr => ∃ i : Nat, i ≤ l.length ∧ iv = .int .i64 i ∧ OwnE wr ov (l.take i) ∧ (∀ y, ov.ownBlock = some y → w.heap.size ≤ y) ∧ Only (fun _ => False) w wr) (fun _ iv _ => l.length - (intOf iv).toNat)
  case atStart => exact ⟨0, by omega, rfl, unhide H0, fun y hy => by simp [Value.ownBlock] at hy, Only.refl _ _⟩
  case round =>
    clear H0
    obtain ⟨i, hi, rfl, hown, hb, ho⟩ := hrel
    by_cases hil : i < l.length
    · obtain ⟨g, rfl, hcell⟩ := unhide Hc (by omega)
      obtain ⟨c0, c1, c2⟩ := hcell i hil
      have hgl : g < w.heap.size := World.block_lt_of_cell? w _ c0
      have hbk := ho.block g hgl (fun h => h)
      rw [← World.cell?_of_block hbk] at c0 c1 c2
      have a1 : decide ((i : Int) < (l.length : Int)) = true := by simp; omega
      have a2 : (i : Int) < (l.length : Int) := by omega
      have hsn : enCells (l.take i) ++ [.string (sb l[i].path), .int .i64 l[i].id, .int .i64 l[i].mode] = enCells (l.take (i + 1)) := by
        rw [List.take_succ_eq_append_getElem hil, enCells_snoc]
      have hlt : (l.take i).length = i := by rw [List.length_take]; omega
      have hlt' : (l.take (i + 1)).length = i + 1 := by rw [List.length_take]; omega
      unfold OwnE at hown
      rw [hlt] at hown
      have Hb := hide hb
      have Hsn := hide hsn
      have Hlt' := hide hlt'
      have hws := ho.size
      clear hb hsn hlt hlt' hcell hbk
      generalize sb l[i].path = q0 at *
      generalize l[i].id = q1 at *
      generalize l[i].mode = q2 at *
      generalize enCells (l.take i) = xs at *
      have hgw : g < wr.heap.size := by omega
      go_wp2_with (at_builtin; refine wpList_append2 _ rfl _ _ 37 rfl 67 i0 _ 3 32 Tryz.underlying37 hi0 hz0 hz1 hz2 rfl (by decide) _ _ _ rfl (hown.alloc _) ⟨wr.heap.size, 0, none⟩ 1 1 [.string q0, .int .i64 q1, .int .i64 q2] rfl rfl ?c1 ?c2 ?c3 ?c4 ?_)
      try (case c1 => exact news_ok _ _ _ _ rfl)
      case c2 => intro u hu; simp at hu; rcases hu with rfl | rfl | rfl <;> rfl
      case c3 => unfold maxLen; omega
      case c4 => omega
      intro v' w4 hown' hgrow hwhere
      have o4 : Only (fun _ => False) w w4 := (ho.alloc _).grown hgrow (fun b hb hlt => by have := unhide Hb b hb; omega)
      rw [unhide Hsn] at hown'
      have Hw := hide hwhere
      have Ho := hide hown'
      clear hwhere hown'
      go_wp2_with fail
      go_roundw
      case rel =>
        refine ⟨i + 1, by omega, by go_num, ?_, ?_, o4⟩
        · unfold OwnE
          rw [unhide Hlt']
          exact unhide Ho
        · intro b hb'
          rcases unhide Hw b hb' with e | e
          · exact unhide Hb b e
          · try simp at e
            omega
      case measure => simp [intOf]; omega
    · obtain rfl : i = l.length := by omega
      rw [List.take_length] at hown
      have Ho := hide hown
      have Hb := hide hb
      have a1 : decide ((l.length : Int) < (l.length : Int)) = false := by simp
      clear hown hb
      go_wp2_with fail
      go_ret
      exact ⟨_, rfl, unhide Ho, unhide Hb, ho⟩
set_option maxRecDepth 100000 in
set_option maxHeartbeats 1000000 in
theorem ucopyInts_any {w : World} (v : Value) (l : List Int) (h : IntsIn w v l) (hlen : l.length ≤ 1000) :
    Calls Tryz.prog 49 #[v] w fun e w' => ∃ v', e = .returned v' ∧ OwnI w' v' l ∧ (∀ y, v'.ownBlock = some y → w.heap.size ≤ y) ∧ Only (fun _ => False) w w' := by
  obtain ⟨a, cap, rfl, hc⟩ := h
  obtain ⟨i0, hi0, hz0, hz1, hz2⟩ := info_parts Tryz.infoIntU
  have Hc := hide hc
  have H0 := hide (OwnI.nil w)
  clear hc
  go_enter Tryz.func49, Tryz.ntmps49
  go_wp2_with fail
  go_loopw [3, 4] (fun ov iv wr => ∃ i : Nat, i ≤ l.length ∧ iv = .int .i64 i ∧ OwnI wr ov (l.take i) ∧ (∀ y, ov.ownBlock = some y → w.heap.size ≤ y) ∧ Only (fun _ => False) w wr) (fun _ iv _ => l.length - (intOf iv).toNat)
  case atStart => exact ⟨0, by omega, rfl, unhide H0, fun y hy => by simp [Value.ownBlock] at hy, Only.refl _ _⟩
  case round =>
    clear H0
    obtain ⟨i, hi, rfl, hown, hb, ho⟩ := hrel
    by_cases hil : i < l.length
    · obtain ⟨g, rfl, hcell⟩ := unhide Hc (by omega)
      have c0 := hcell i hil
      have hgl : g < w.heap.size := World.block_lt_of_cell? w _ c0
      have hbk := ho.block g hgl (fun h => h)
      rw [← World.cell?_of_block hbk] at c0
      have a1 : decide ((i : Int) < (l.length : Int)) = true := by simp; omega
      have a2 : (i : Int) < (l.length : Int) := by omega
      have hsn : iV (l.take i) ++ [.int .i64 l[i]] = iV (l.take (i + 1)) := by
        rw [List.take_succ_eq_append_getElem hil, iV_snoc]
      have hlt : (l.take i).length = i := by rw [List.length_take]; omega
      have hlt' : (l.take (i + 1)).length = i + 1 := by rw [List.length_take]; omega
      unfold OwnI at hown
      rw [hlt] at hown
      have Hb := hide hb
      have Hsn := hide hsn
      have Hlt' := hide hlt'
      have hws := ho.size
      clear hb hsn hlt hlt' hcell hbk
      generalize l[i] = q0 at *
      generalize iV (l.take i) = xs at *
      have hgw : g < wr.heap.size := by omega
      go_wp2_with (at_builtin; refine wpList_append2 _ rfl _ _ 55 rfl 3 i0 _ 1 8 Tryz.underlying55 hi0 hz0 hz1 hz2 rfl (by decide) _ _ _ rfl (hown.alloc _) ⟨wr.heap.size, 0, none⟩ 1 1 [.int .i64 q0] rfl rfl ?c1 ?c2 ?c3 ?c4 ?_)
      try (case c1 => exact news_ok _ _ _ _ rfl)
      case c2 => intro u hu; simp at hu; subst hu; rfl
      case c3 => unfold maxLen; omega
      case c4 => omega
      intro v' w4 hown' hgrow hwhere
      have o4 : Only (fun _ => False) w w4 := (ho.alloc _).grown hgrow (fun b hb hlt => by have := unhide Hb b hb; omega)
      rw [unhide Hsn] at hown'
      have Hw := hide hwhere
      have Ho := hide hown'
      clear hwhere hown'
      go_wp2_with fail
      go_roundw
      case rel =>
        refine ⟨i + 1, by omega, by go_num, ?_, ?_, o4⟩
        · unfold OwnI
          rw [unhide Hlt']
          exact unhide Ho
        · intro b hb'
          rcases unhide Hw b hb' with e | e
          · exact unhide Hb b e
          · try simp at e
            omega
      case measure => simp [intOf]; omega
    · obtain rfl : i = l.length := by omega
      rw [List.take_length] at hown
      have Ho := hide hown
      have Hb := hide hb
      have a1 : decide ((l.length : Int) < (l.length : Int)) = false := by simp
      clear hown hb
      go_wp2_with fail
      go_ret
      exact ⟨_, rfl, unhide Ho, unhide Hb, ho⟩
set_option maxRecDepth 100000 in
set_option maxHeartbeats 1000000 in
theorem usame_any {w : World} (v u : Value) (x y : List Nat) (hx : BytesAt w v x.length (dF x)) (hy : BytesAt w u y.length (dF y)) (hlen : x.length ≤ 4611686018427387904) :
    Calls Tryz.prog 89 #[v, u] w fun e w' => e = .returned (.bool (decide (x = y))) ∧ Only (fun _ => False) w w' := by
  obtain ⟨va, vc, rfl, hxc⟩ := hx
  obtain ⟨ua, uc, rfl, hyc⟩ := hy
  by_cases hl : x.length = y.length
  · have hext := fun (h : ∀ j, j < x.length → dF x j = dF y j) => dF_ext hl h
    have Hext := hide hext
    rw [← hl] at hyc ⊢
    clear hext
    generalize hnx : x.length = n at *
    have n1 : ((n : Int) != (n : Int)) = false := by simp
    have Hnx := hide hnx
    clear hnx
    go_enter Tryz.func89, Tryz.ntmps89
    go_wp2_with fail
    go_loopw [5] (fun iv wr => ∃ i : Nat, i ≤ n ∧ iv = .int .i64 i ∧ (∀ j, j < i → dF x j = dF y j) ∧ Only (fun _ => False) w wr) (fun iv _ => n - (intOf iv).toNat)
    case atStart => exact ⟨0, by omega, rfl, fun j hj => by omega, Only.refl _ _⟩
    case round =>
      obtain ⟨i, hi, rfl, ha, ho⟩ := hrel
      have Ha := hide ha
      clear ha
      by_cases hin : i < n
      · obtain ⟨gx, rfl, hcx⟩ := hxc (by omega)
        obtain ⟨gy, rfl, hcy⟩ := hyc (by omega)
        have gxl : gx < w.heap.size := World.block_lt_of_cell? w _ (hcx 0 (by omega))
        have gyl : gy < w.heap.size := World.block_lt_of_cell? w _ (hcy 0 (by omega))
        have q1 : wr.cell? ⟨gx, i, none⟩ = some (.int .u8 (dF x i : Int)) := by rw [World.cell?_of_block (ho.block gx gxl (fun h => h))]; exact hcx i hin
        have q2 : wr.cell? ⟨gy, i, none⟩ = some (.int .u8 (dF y i : Int)) := by rw [World.cell?_of_block (ho.block gy gyl (fun h => h))]; exact hcy i hin
        have a1 : decide ((i : Int) < (n : Int)) = true := by simp; omega
        have a2 : (i : Int) < (n : Int) := by omega
        generalize hxx : dF x i = xx at *
        generalize hyy : dF y i = yy at *
        have Hx := hide hxx
        have Hy := hide hyy
        clear hxx hyy hcx hcy hxc hyc
        by_cases hxy : xx = yy
        · subst hxy
          have b1 : ((xx : Int) != (xx : Int)) = false := by simp
          go_wp2_with fail
          go_quiet (fail)
          go_wp2_with fail
          go_roundw
          case rel =>
            refine ⟨i + 1, by omega, by go_num, fun j hj => ?_, ho.drewO _⟩
            by_cases e : j = i
            · subst e; rw [unhide Hx, unhide Hy]
            · exact unhide Ha j (by omega)
          case measure => simp [intOf]; omega
        · have b1 : ((xx : Int) != (yy : Int)) = true := by simp; omega
          have hne : decide (x = y) = false := by
            simp
            intro e
            have h1 := unhide Hx
            rw [e, unhide Hy] at h1
            exact hxy h1.symm
          have Hne := hide hne
          clear hne
          go_wp2_with fail
          go_quiet (fail)
          go_wp2_with fail
          go_ret
          rw [unhide Hne]
          exact ⟨rfl, ho.drewO _⟩
      · obtain rfl : i = n := by omega
        have heq : decide (x = y) = true := by simpa using (unhide Hext) (unhide Ha)
        have Heq := hide heq
        have a1 : decide ((i : Int) < (i : Int)) = false := by simp
        have a1' : ¬ i < i := by omega
        clear heq
        go_wp2_with fail
        go_ret
        rw [unhide Heq]
        exact ⟨rfl, ho⟩
  · have hne : decide (x = y) = false := by
      simp
      intro e; rw [e] at hl; exact hl rfl
    rw [hne]
    generalize x.length = n at *
    generalize y.length = k at *
    have n1 : ((n : Int) != (k : Int)) = true := by simp; omega
    go_enter Tryz.func89, Tryz.ntmps89
    go_wp2_with fail
    go_ret
    exact ⟨rfl, Only.refl _ _⟩

section
variable {w : World} {m : Nat} {J : Nat → Sl} {rt : Nat} {hist : Value} {H : Nat → Prop}
def lowN (J : Nat → Sl) : Nat := match lowJ J with
  | some i => i
  | none => 0
set_option maxRecDepth 100000 in
theorem ulowest_any (h : UAt w m J rt hist H) :
    Calls Tryz.prog 90 #[.pointer (some ⟨m, 0, none⟩)] w fun e w' => e = .returned (.int .i64 (lowN J : Nat)) ∧ w = w' := by
  have H0 := hide h
  clear h
  go_enter Tryz.func90, Tryz.ntmps90
  go_wp2_with fail
  go_loop [3] (fun kv => ∃ k : Nat, 1 ≤ k ∧ k ≤ 49 ∧ kv = .int .i64 k ∧ ∀ j, In j → j < k → (J j).st ≠ 0) (fun kv => (49 - intOf kv).toNat)
  case atStart => exact ⟨1, by omega, by omega, rfl, fun j hj hl => by have := hj.1; omega⟩
  case round =>
    obtain ⟨k, hk1, hk, rfl, hlow⟩ := hrel
    by_cases hk8 : k < 49
    · have hin : In k := ⟨hk1, by omega⟩
      obtain ⟨dv, lv, kv, hc⟩ := (unhide H0).cells hin
      have c := hc.c0.1
      have a1 : decide ((k : Int) ≤ 48) = true := by simp; omega
      have a2 : (k : Int) < 49 := by omega
      clear hc
      by_cases hst : (J k).st = 0
      · rw [hst] at c
        have hL : lowN J = k := by unfold lowN; rw [lowJ_eq hin hst hlow]
        have HL := hide hL
        clear hL hst hlow
        go_wp2_with fail
        go_ret
        rw [unhide HL]
        exact ⟨rfl, rfl⟩
      · have hnext : ∀ j, In j → j < k + 1 → (J j).st ≠ 0 := by
          intro j hj hlt
          by_cases e : j = k
          · subst e; exact hst
          · exact hlow j hj (by omega)
        have Hnext := hide hnext
        clear hnext hlow
        generalize (J k).st = st at *
        have e1 : ((st : Int) == 0) = false := ne_intO (by omega)
        clear hst
        go_wp2_with fail
        go_round
        case rel => exact ⟨k + 1, by omega, by omega, by go_num, unhide Hnext⟩
        case measure => simp [intOf]; omega
    · obtain rfl : k = 49 := by omega
      have hL : lowN J = 0 := by unfold lowN; rw [lowJ_full (fun j hj => hlow j hj (by have := hj.2; omega))]
      have HL := hide hL
      clear hL hlow
      go_wp2_with fail
      go_ret
      rw [unhide HL]
      exact ⟨rfl, rfl⟩
set_option maxRecDepth 100000 in
theorem ufree_any (h : UAt w m J rt hist H) :
    Calls Tryz.prog 53 #[.pointer (some ⟨m, 0, none⟩)] w fun e w' => e = .returned (.int .i64 (frJ J : Nat)) ∧ w = w' := by
  have H0 := hide h
  clear h
  unfold frJ
  go_enter Tryz.func53, Tryz.ntmps53
  go_wp2_with fail
  go_loop [3, 4] (fun nv kv => ∃ k : Nat, 1 ≤ k ∧ k ≤ 49 ∧ kv = .int .i64 k ∧ nv = .int .i64 (cntTo (isFreeS J) k : Nat)) (fun _ kv => (49 - intOf kv).toNat)
  case atStart => exact ⟨1, by omega, by omega, rfl, rfl⟩
  case round =>
    obtain ⟨k, hk1, hk, rfl, rfl⟩ := hrel
    by_cases hk8 : k < 49
    · have hin : In k := ⟨hk1, by omega⟩
      obtain ⟨dv, lv, kv, hc⟩ := (unhide H0).cells hin
      have c := hc.c0.1
      clear hc
      have a1 : decide ((k : Int) ≤ 48) = true := by simp; omega
      have a2 : (k : Int) < 49 := by omega
      have hC : cntTo (isFreeS J) (k + 1) = cntTo (isFreeS J) k + (if isFreeS J k = true then 1 else 0) := rfl
      have hk0 : (k != 0) = true := by simp; omega
      have hle := cntTo_le (isFreeS J) k
      have hF : isFreeS J k = ((J k).st == 0) := by unfold isFreeS; rw [hk0]; simp
      rw [hF] at hC
      have HC := hide hC
      clear hC hF
      generalize cntTo (isFreeS J) k = cf at *
      generalize (J k).st = st at *
      by_cases e0 : st = 0
      · subst e0
        go_wp2_with fail
        go_round
        case rel => exact ⟨k + 1, by omega, by omega, by go_num, by rw [unhide HC]; simp⟩
        case measure => simp [intOf]; omega
      · have b0 : ((st : Int) == 0) = false := ne_intO (by omega)
        go_wp2_with fail
        go_round
        case rel => exact ⟨k + 1, by omega, by omega, by go_num, by rw [unhide HC]; simp [e0]⟩
        case measure => simp [intOf]; omega
    · obtain rfl : k = 49 := by omega
      go_wp2_with fail
      go_ret
      exact ⟨rfl, rfl⟩
end
end Go.Proofs.Qxb6500421aGreat
