/-
  OWN WORK. TABLE: the keys and values of the trees.
-/
import Derived.Test.Qxb6500412aGreatEApi
import Derived.Deep.RegionWith
namespace Go.Proofs.Qxb6500412aGreat
open Go.RowKit Go.PlainAid
set_option linter.unusedSimpArgs false
set_option linter.unusedVariables false

theorem conv_one {w : World} {g cap i : Nat} (hi : i < 256) (hc : w.cell? ⟨g, 0, none⟩ = some (.int .u8 (i : Int))) : (convert 282 9 (.slice (some ⟨g, 0, none⟩) 1 cap)).run Tryz.prog w = .ok (.string (mkB 1 (fun _ => i))) w := by
  have := run_convert_bytes_back (P := Tryz.prog) w 282 9 5 ⟨g, 0, none⟩ cap ((List.range 1).map (fun j => UInt8.ofNat i)) Tryz.underlying282 Tryz.underlying5 Tryz.underlying9 (fun j hj => by
    have hj2 : j = 0 := by simp at hj; omega
    subst hj2
    rw [addr_add]
    simp only [Nat.zero_add, hc]
    simp
    omega)
  exact this
theorem conv_new (i : Nat) (hi : i < 256) (w : World) : (convert 282 9 (.slice (some ⟨w.heap.size, 0, none⟩) 1 1)).run Tryz.prog (w.alloc (.cells #[.int .u8 (i : Int)] 5)) = .ok (.string (mkB 1 (fun _ => i))) (w.alloc (.cells #[.int .u8 (i : Int)] 5)) :=
  conv_one hi (by simp)
theorem cell_far {i : Nat} {w w1 : World} {g : Nat} (hg : w.heap.size = g) (o : Only (fun _ => False) (w.alloc (.cells #[.int .u8 (i : Int)] 5)) w1) : w1.cell? ⟨g, 0, none⟩ = some (.int .u8 (i : Int)) := by
  subst hg
  have := ((Has.new w #[.int .u8 (i : Int)] 5).keep o (fun e => e)).cell 0
  simpa using this
theorem cell_far2 {i : Nat} {w w1 : World} {g : Nat} (hg : w.heap.size = g) (o : Only (fun _ => False) (w.alloc (.cells #[.int .u8 (i : Int)] 5)).drew w1) : w1.cell? ⟨g, 0, none⟩ = some (.int .u8 (i : Int)) := cell_far hg ((Only.refl _ _).drew.trans o (fun _ _ e => e))
set_option maxRecDepth 100000 in
theorem ecatKey_any (nm : ByteArray) (i : Nat) (hn : nm.size ≤ 6) (hi : i < 256) (w : World) : Calls Tryz.prog 235 #[.string nm, .int .i64 i] w fun e w' => e = .returned (.string (catK nm i)) ∧ Only (fun _ => False) w w' := by
  have C1 := hide (fun w => epad_any nm 6 hn (by omega) w)
  have w8 : IntKind.u8.wrap (i : Int) = (i : Int) := IntWalk.u8_in _ (by omega)
  have s1 := cP_size nm 6
  have s2 : (mkB 1 (fun _ => i)).size = 1 := mkB_size _ _
  have hcv : ∀ (w : World) (g : Nat), w.cell? ⟨g, 0, none⟩ = some (.int .u8 (i : Int)) → (convert 282 9 (.slice (some ⟨g, 0, none⟩) 1 1)).run Tryz.prog w = .ok (.string (mkB 1 (fun _ => i))) w := fun w g h => conv_one hi h
  have HE := hide (show catK nm i = cP nm 6 ++ mkB 1 (fun _ => i) from rfl)
  go_enter Tryz.func235, Tryz.ntmps235
  go_wp2_with fail
  go_region_with (go_at_call 302; refine (unhide C1 _).mono ?_; rintro e w1 ⟨rfl, o1⟩; try first | have y1 := cell_far (i := i) (w := w.drew) (g := w.heap.size) rfl o1 | have y1 := cell_far2 (i := i) (w := w) (g := w.heap.size) rfl o1)
  all_goals
    go_wp2_with fail
    go_ret
    refine ⟨by first | (rw [unhide HE]; rfl) | simp [unhide HE], ?_⟩
    first
      | exact ((Only.refl (fun _ => False) w).drew.trans o1 (fun _ _ e => e)).alloc _
      | exact (((Only.refl (fun _ => False) w).drew).alloc _).trans o1 (fun _ _ e => e)
      | trace_state
set_option maxRecDepth 100000 in
theorem eidxKey_any {w : World} {rv : Value} {row : List Vl} (hr : OwnV w rv row) (hr4 : row.length ≤ 100) {col pk : Nat} (hc : col < row.length) (hp : pk < row.length) (hf : ∀ v ∈ row, v.fit) : Calls Tryz.prog 244 #[rv, .int .i64 col, .int .i64 pk] w fun e w' => e = .returned (.string (idxK row col pk)) ∧ Only (fun _ => False) w w' := by
  obtain ⟨x, hx⟩ := getE hc
  obtain ⟨y, hy⟩ := getE hp
  obtain ⟨g, cap, rfl, e0, e1, e2⟩ := getv_at hr hx
  have C1 := hide (ecodeVal_any x (hf x (List.mem_of_getElem? hx)) w)
  have C2 := hide (fun w => ecodeVal_any y (hf y (List.mem_of_getElem? hy)) w)
  have HR := hide (And.intro hr hy)
  have HE := hide (show idxK row col pk = cV x ++ cV y from by unfold idxK; rw [hx, hy]; rfl)
  have s1 := cV_size x
  have s2 := cV_size y
  have i1 : (col : Int) < (row.length : Int) := by omega
  have i2 : (pk : Int) < (row.length : Int) := by omega
  clear hx hy hr hf
  go_enter Tryz.func244, Tryz.ntmps244
  go_wp2_with fail
  refine (unhide C1).mono ?_
  rintro e w1 ⟨rfl, o1⟩
  have hr1 := (unhide HR).1.keep o1 (fun _ _ e => e)
  obtain ⟨g2, cap2, ha, f0, f1, f2⟩ := getv_at hr1 (unhide HR).2
  obtain rfl : g = g2 := by simp at ha; exact ha.1
  clear ha hr1 C1
  go_wp2_with fail
  refine (unhide C2 w1).mono ?_
  rintro e w2 ⟨rfl, o2⟩
  generalize cV x = X at *
  generalize cV y = Y at *
  go_wp2_with fail
  go_ret
  exact ⟨by rw [unhide HE]; rfl, o1.trans o2 (fun _ _ e => e)⟩
set_option maxRecDepth 100000 in
theorem erestOf_any {w : World} {rv : Value} {row : List Vl} (hr : OwnV w rv row) (hr4 : row.length ≤ 100) {pk : Nat} (hp : pk < row.length) (hf : ∀ v ∈ row, v.fit) : Calls Tryz.prog 299 #[rv, .int .i64 pk] w fun e w' => e = .returned (.string (restP row pk)) ∧ Only (fun _ => False) w w' := by
  obtain ⟨a, cap, rfl⟩ := hr.shape
  have HR := hide (And.intro hr hf)
  clear hr hf
  unfold restP
  go_enter Tryz.func299, Tryz.ntmps299
  go_upto_region 3 with fail
  go_loopw [5, 6] (fun sv jv wr => ∃ i : Nat, jv = .int .i64 i ∧ i ≤ row.length ∧ sv = .string (codes ((row.take i).eraseIdx pk)) ∧ (codes ((row.take i).eraseIdx pk)).size ≤ 8 * i ∧ Only (fun _ => False) w wr) (fun _ jv _ => row.length - (intOf jv).toNat)
  case atStart => exact ⟨0, rfl, Nat.zero_le _, rfl, by simp [codes]; rfl, Only.refl _ _⟩
  case round =>
    obtain ⟨i, rfl, hi, rfl, hsz, oW⟩ := hrel
    by_cases hi2 : i < row.length
    · have a1 : decide ((i : Int) < (row.length : Int)) = true := decide_eq_true (by omega)
      have a1p : (i : Int) < (row.length : Int) := by omega
      obtain ⟨x, hx⟩ := getE hi2
      obtain ⟨g, cap', ha, e0, e1, e2⟩ := getv_at ((unhide HR).1.keep oW (fun _ _ e => e)) hx
      simp only [Value.slice.injEq] at ha
      obtain ⟨rfl, _, rfl⟩ := ha
      have hstep := erase_take (pk := pk) hx
      have C1 := hide (ecodeVal_any x ((unhide HR).2 x (List.mem_of_getElem? hx)) wr)
      have s1 := cV_size x
      have HO := hide oW
      clear hx oW
      by_cases hip : i = pk
      · have b1 : ((i : Int) != (pk : Int)) = false := by rw [hip]; simp
        have b1' : ((pk : Int) != (pk : Int)) = false := by simp
        rw [if_pos hip, List.append_nil] at hstep
        have HS := hide hstep
        have HZ := hide hsz
        subst hip
        clear hstep hsz s1
        go_wp2_with fail
        go_roundw
        case rel => exact ⟨i + 1, by go_num, by omega, by rw [unhide HS], by rw [unhide HS]; have := unhide HZ; omega, unhide HO⟩
        case measure => simp [intOf]; omega
      · have b1 : ((i : Int) != (pk : Int)) = true := by simp; omega
        rw [if_neg hip] at hstep
        have HS := hide (show codes ((row.take (i + 1)).eraseIdx pk) = codes ((row.take i).eraseIdx pk) ++ cV x from by rw [hstep, codes_snoc])
        generalize codes ((row.take i).eraseIdx pk) = S0 at *
        generalize cV x = X at *
        have i4 : (i : Int) ≤ 100 := by omega
        clear hstep
        go_wp2_with fail
        refine (unhide C1).mono ?_
        rintro e w1 ⟨rfl, o1⟩
        have HO1 := hide ((unhide HO).trans o1 (fun _ _ e => e))
        clear o1
        go_wp2_with fail
        go_roundw
        case rel => exact ⟨i + 1, by go_num, by omega, by rw [unhide HS], by rw [unhide HS]; simp; omega, unhide HO1⟩
        case measure => simp [intOf]; omega
    · obtain rfl : i = row.length := by omega
      have a1 : decide ((row.length : Int) < (row.length : Int)) = false := by simp
      rw [List.take_length] at *
      have HO := hide oW
      generalize hS0 : codes (row.eraseIdx pk) = S0 at *
      have HS0 := hide hS0
      clear hS0
      go_wp2_with fail
      go_ret
      exact ⟨by rw [unhide HS0]; rfl, unhide HO⟩
end Go.Proofs.Qxb6500412aGreat
