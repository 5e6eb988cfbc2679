/-
  OWN WORK. THE B-TREE LAW's GHOST: SameKV, NewGhost.
-/
import Derived.Test.Qxb6500410aGreatBGw
namespace Go.Proofs.Qxb6500410aGreat
open Go.RowKit Go.PlainAid
set_option linter.unusedSimpArgs false
set_option linter.unusedVariables false

theorem wpList_box_kvd {ops : Array Oper} {rest : List Oper} {o : Oper} {a : Act} {w : World} {Q : Exit → Act → World → Prop} (d : Nat) (hd : o.dst = some d) (hgd : o.guard = none) (x : Operand) (ho : o.op = .box 110 x) (e : KV) (hx : a.eval x = kvA e)
    (hK : ∀ g w', KvAt w' g e → w.heap.size ≤ g → Only (fun _ => False) w w' → wpList Tryz.prog ops Q rest (a.put o.dst (.pointer (some ⟨g, 0, none⟩))) w') : wpList Tryz.prog ops Q (o :: rest) a w := by
  refine wpList_plain hgd fun _ hK2 => ?_
  have := hK2 _ _ (hK w.heap.size (w.alloc (.cells (kvR e) 110)) (Has.new w _ _) (Nat.le_refl _) ((Only.refl _ w).alloc _))
  unfold Oper.wp execOp
  simp only [ho, hx, kvA]
  exact this
section
variable {w : World} {g tb : Nat} {iv : Value} {T : Nat → Bool} {its : List Itm}
theorem iE_t {s : ByteArray} (h : s = bE) : s.toList.isEmpty = true := by rw [h, ls_toList]; rfl
theorem iE_f {s : ByteArray} (h : ¬ s = bE) : s.toList.isEmpty = false := by
  cases hs : s.toList.isEmpty with
  | false => rfl
  | true =>
    refine absurd (ls_inj ?_) h
    rw [← ls_toList]
    rw [List.isEmpty_iff.mp hs]
    rfl
def skN (a : KV) (e : Int) : Bool := decide (e = 9) && (decide (a.1 = bE) && decide (a.2 = bE))
def skP (y : Itm) (a : KV) (e : Int) : Bool := decide (e = 0) && (decide (a.1 = y.K) && decide (a.2 = y.V))
theorem samekv_neg (G : GhAt w g tb iv T its) (a : KV) (e : Int) : Calls Tryz.prog 86 #[.pointer (some ⟨g, 0, none⟩), .int .i64 (-1), kvA a, .int .i64 e] w fun en w' => en = .returned (.bool (skN a e)) ∧ Only (fun _ => False) w w' := by
  go_enter Tryz.func86, Tryz.ntmps86
  go_upto_region 1 with (first | (refine wpList_box_kvd 6 rfl rfl _ rfl a rfl ?_; intro b w1 hB gB oB))
  have c0 := hB.k.1
  have c1 := hB.v.1
  have HO := hide oB
  clear oB hB
  by_cases h1 : e = 9
  · subst h1
    by_cases h2 : a.1 = bE
    · have b2 := iE_t h2
      by_cases h3 : a.2 = bE
      · have b3 := iE_t h3
        have hr : skN a 9 = true := by simp [skN, h2, h3]
        have HR := hide hr
        clear h2 h3 hr
        go_wp2_with fail
        go_ret
        exact ⟨by rw [unhide HR]; rfl, unhide HO⟩
      · have b3 := iE_f h3
        have hr : skN a 9 = false := by simp [skN, h2, h3]
        have HR := hide hr
        clear h2 h3 hr
        go_wp2_with fail
        go_ret
        exact ⟨by rw [unhide HR]; rfl, unhide HO⟩
    · have b2 := iE_f h2
      have hr : skN a 9 = false := by simp [skN, h2]
      have HR := hide hr
      clear h2 hr
      go_wp2_with fail
      go_ret
      exact ⟨by rw [unhide HR]; rfl, unhide HO⟩
  · have b1 : (e == 9) = false := by simpa using h1
    have hr : skN a e = false := by simp [skN, h1]
    have HR := hide hr
    clear hr
    go_wp2_with fail
    go_ret
    exact ⟨by rw [unhide HR]; rfl, unhide HO⟩
set_option maxRecDepth 100000 in
set_option maxHeartbeats 4000000 in
theorem samekv_pos (G : GhAt w g tb iv T its) (i : Nat) (y : Itm) (hy : its[i]? = some y) (a : KV) (e : Int) : Calls Tryz.prog 86 #[.pointer (some ⟨g, 0, none⟩), .int .i64 i, kvA a, .int .i64 e] w fun en w' => en = .returned (.bool (skP y a e)) ∧ Only (fun _ => False) w w' := by
  obtain ⟨ia, cap, rfl⟩ := G.own.shape
  have hil := get_lt hy
  have a1p : (i : Int) < (its.length : Int) := by omega
  have a0 : decide ((i : Int) < 0) = false := decide_eq_false (by omega)
  go_enter Tryz.func86, Tryz.ntmps86
  go_upto_region 1 with (first | (refine wpList_box_kvd 6 rfl rfl _ rfl a rfl ?_; intro b w1 hB gB oB))
  have G1 := G.quiet oB
  obtain ⟨ib, ha, d0, d1, d2⟩ := G1.own.at_ hy
  subst ha
  have cg := G1.c1
  have c0 := hB.k.1
  have c1 := hB.v.1
  have HO := hide oB
  clear oB hB G1 G hy
  go_upto_region 3 with fail
  by_cases h1 : e = 0
  · subst h1
    by_cases h2 : a.1 = y.K
    · have b2 := seq_t h2
      by_cases h3 : a.2 = y.V
      · have b3 := seq_t h3
        have hr : skP y a 0 = true := by simp [skP, h2, h3]
        have HR := hide hr
        clear h2 h3 hr
        go_region_held3 (fun w' => w'.cell? ⟨g, 1, none⟩ = some (.slice (some ⟨ib, 0, none⟩) its.length cap) ∧ w'.cell? ⟨ib, i * 3 + 1, none⟩ = some (.string y.K) ∧ w'.cell? ⟨ib, i * 3 + 2, none⟩ = some (.string y.V) ∧ w'.cell? ⟨b, 0, none⟩ = some (.string a.1) ∧ w'.cell? ⟨b, 1, none⟩ = some (.string a.2)) (exact ⟨cg, d1, d2, c0, c1⟩) (fail)
        all_goals
          go_wp2_with fail
          go_ret
          exact ⟨by rw [unhide HR]; rfl, (unhide HO).drew⟩
      · have b3 := seq_f h3
        have hr : skP y a 0 = false := by simp [skP, h2, h3]
        have HR := hide hr
        clear h2 h3 hr
        go_region_held3 (fun w' => w'.cell? ⟨g, 1, none⟩ = some (.slice (some ⟨ib, 0, none⟩) its.length cap) ∧ w'.cell? ⟨ib, i * 3 + 1, none⟩ = some (.string y.K) ∧ w'.cell? ⟨ib, i * 3 + 2, none⟩ = some (.string y.V) ∧ w'.cell? ⟨b, 0, none⟩ = some (.string a.1) ∧ w'.cell? ⟨b, 1, none⟩ = some (.string a.2)) (exact ⟨cg, d1, d2, c0, c1⟩) (fail)
        all_goals
          go_wp2_with fail
          go_ret
          exact ⟨by rw [unhide HR]; rfl, (unhide HO).drew⟩
    · have b2 := seq_f h2
      have hr : skP y a 0 = false := by simp [skP, h2]
      have HR := hide hr
      clear h2 hr
      go_region
      all_goals
        go_wp2_with fail
        go_ret
        exact ⟨by rw [unhide HR]; rfl, (unhide HO).drew⟩
  · have b1 : (e == 0) = false := by simpa using h1
    have hr : skP y a e = false := by simp [skP, h1]
    have HR := hide hr
    clear hr
    go_region
    all_goals
      go_wp2_with fail
      go_ret
      exact ⟨by rw [unhide HR]; rfl, (unhide HO).drew⟩
theorem Tryz.infoBoolG : (Tryz.prog.info? 4).map (fun i => (i.zero, i.size, i.bytes)) = some (some (.bool false), 1, 1) := by kernel_rfl
theorem run_make_boolsG (w : World) : (Instr.makeSlice 62 (.int .i64 8) (.int .i64 8)).run Tryz.prog w = .ok (.slice (some ⟨w.heap.size, 0, none⟩) 8 8) (w.alloc (.cells (tabV 8 (fun _ => .bool false)) 4)) := by
  obtain ⟨i, hi, hz, hs, hb⟩ := info_parts Tryz.infoBoolG
  have := run_make (P := Tryz.prog) w 62 4 i _ Tryz.underlying62 hi hz .i64 .i64 (8 : Int) (8 : Int) (by omega) (by omega) (by rw [hb]; omega) (by omega)
  rw [this]
  simp [hs, Value.cells, madeCells_oneO]
  rfl
theorem gnew_any (w : World) : Calls Tryz.prog 13 #[] w fun e w' => ∃ g tb, e = .returned (.pointer (some ⟨g, 0, none⟩)) ∧ GhAt w' g tb (.slice none 0 0) (fun _ => false) [] ∧ w.heap.size ≤ g ∧ w.heap.size ≤ tb ∧ Only (fun _ => False) w w' := by
  have hmk := run_make_boolsG
  go_enter Tryz.func13, Tryz.ntmps13
  go_wp2_with fail
  go_ret
  refine ⟨w.heap.size, w.heap.size + 1, rfl, ⟨(Has.new w _ 65).keep ((Only.refl (fun _ => False) _).alloc _) (fun h => h), ?_, OwnI.nil _, by simp⟩, Nat.le_refl _, by omega, ((Only.refl _ w).alloc _).alloc _⟩
  have h2 := Has.new (w.alloc (.cells #[.slice (some ⟨w.heap.size + 1, 0, none⟩) 8 8, .slice none 0 0] 65)) (tabV 8 (fun _ => .bool false)) 4
  rw [World.size_alloc] at h2
  exact h2
end
end Go.Proofs.Qxb6500410aGreat
