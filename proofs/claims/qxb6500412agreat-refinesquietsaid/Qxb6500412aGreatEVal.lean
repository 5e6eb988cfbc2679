/-
  OWN WORK. TABLE: values, rows and columns in memory; Int, Str, valOf, Cmp.
-/
import Derived.Test.Qxb6500412aGreatEWl2
import Derived.Test.Qxb6500412aGreatEDef
namespace Go.Proofs.Qxb6500412aGreat
open Go.RowKit Go.PlainAid
set_option linter.unusedSimpArgs false
set_option linter.unusedVariables false

/-- The cells of a list of values. -/
def vcs : List Vl → List Value
  | [] => []
  | v :: r => [.bool v.str, .int .i64 v.i, .string v.s] ++ vcs r
theorem vcs_len (l : List Vl) : (vcs l).length = l.length * 3 := by
  induction l with
  | nil => rfl
  | cons a r ih => simp [vcs, ih]; omega
theorem vcs_one (l : List Vl) : ∀ v ∈ vcs l, v.oneCell' = true := by
  induction l with
  | nil => simp [vcs]
  | cons a r ih =>
    intro v hv
    simp [vcs] at hv
    rcases hv with rfl | rfl | rfl | hv
    · rfl
    · rfl
    · rfl
    · exact ih v hv
theorem vcs_app (l r : List Vl) : vcs (l ++ r) = vcs l ++ vcs r := by
  induction l with
  | nil => rfl
  | cons a t ih => simp [vcs, ih]
theorem vcs_at : ∀ (l : List Vl) (i : Nat) {e : Vl}, l[i]? = some e → (vcs l)[i * 3]? = some (.bool e.str) ∧ (vcs l)[i * 3 + 1]? = some (.int .i64 e.i) ∧ (vcs l)[i * 3 + 2]? = some (.string e.s)
  | [], i, e, h => by simp at h
  | f :: r, 0, e, h => by
    obtain rfl : f = e := by simpa using h
    exact ⟨rfl, rfl, rfl⟩
  | f :: r, i + 1, e, h => by
    have := vcs_at r i (e := e) (by simpa using h)
    have e : (i + 1) * 3 = i * 3 + 3 := by omega
    rw [e]
    exact this
theorem vcs_set : ∀ (l : List Vl) (i : Nat) (e : Vl), vcs (l.set i e) = (((vcs l).set (i * 3) (.bool e.str)).set (i * 3 + 1) (.int .i64 e.i)).set (i * 3 + 2) (.string e.s)
  | [], i, e => by simp [vcs]
  | f :: r, 0, e => rfl
  | f :: r, i + 1, e => by
    have ih := vcs_set r i e
    have e : (i + 1) * 3 = i * 3 + 3 := by omega
    rw [e, List.set_cons_succ]
    simp only [vcs, ih, List.cons_append, List.nil_append, List.set_cons_succ, show i * 3 + 3 + 1 = (i * 3 + 1) + 3 by omega, show i * 3 + 3 + 2 = (i * 3 + 2) + 3 by omega]
/-- A row of values. -/
def OwnV (w : World) (v : Value) (l : List Vl) : Prop := w.ownsRow 0 152 3 v l.length (vcs l)
def ccs : List Cl → List Value
  | [] => []
  | c :: r => [.string c.1, .bool c.2] ++ ccs r
theorem ccs_len (l : List Cl) : (ccs l).length = l.length * 2 := by
  induction l with
  | nil => rfl
  | cons a r ih => simp [ccs, ih]; omega
theorem ccs_at : ∀ (l : List Cl) (i : Nat) {e : Cl}, l[i]? = some e → (ccs l)[i * 2]? = some (.string e.1) ∧ (ccs l)[i * 2 + 1]? = some (.bool e.2)
  | [], i, e, h => by simp at h
  | f :: r, 0, e, h => by
    obtain rfl : f = e := by simpa using h
    exact ⟨rfl, rfl⟩
  | f :: r, i + 1, e, h => by
    have := ccs_at r i (e := e) (by simpa using h)
    have e : (i + 1) * 2 = i * 2 + 2 := by omega
    rw [e]
    exact this
theorem ccs_app (l r : List Cl) : ccs (l ++ r) = ccs l ++ ccs r := by
  induction l with
  | nil => rfl
  | cons a t ih => simp [ccs, ih]
def OwnC (w : World) (v : Value) (l : List Cl) : Prop := w.ownsRow 0 149 2 v l.length (ccs l)
section
variable {w w' : World} {v : Value}
theorem OwnV.keep {B : Nat → Prop} {l : List Vl} (h : OwnV w v l) (ho : Only B w w') (hB : ∀ k, v.ownBlock = some k → ¬ B k) : OwnV w' v l := ownsRow_keep h ho hB
theorem OwnC.keep {B : Nat → Prop} {l : List Cl} (h : OwnC w v l) (ho : Only B w w') (hB : ∀ k, v.ownBlock = some k → ¬ B k) : OwnC w' v l := ownsRow_keep h ho hB
theorem OwnV.shape {l : List Vl} (h : OwnV w v l) : ∃ a cap, v = .slice a l.length cap := ownsRow_shape h
theorem OwnC.shape {l : List Cl} (h : OwnC w v l) : ∃ a cap, v = .slice a l.length cap := ownsRow_shape h
theorem OwnV.lt {l : List Vl} (h : OwnV w v l) : ∀ k, v.ownBlock = some k → k < w.heap.size := ownsRow_lt h
theorem OwnC.lt {l : List Cl} (h : OwnC w v l) : ∀ k, v.ownBlock = some k → k < w.heap.size := ownsRow_lt h
theorem OwnV.nil (w : World) : OwnV w (.slice none 0 0) [] := World.ownsRow_nil _ _ _ _
theorem OwnC.nil (w : World) : OwnC w (.slice none 0 0) [] := World.ownsRow_nil _ _ _ _
theorem OwnV.at_ {a : Option Addr} {n cap : Nat} {l : List Vl} (h : OwnV w (.slice a n cap) l) {i : Nat} {x : Vl} (hx : l[i]? = some x) : ∃ g, a = some ⟨g, 0, none⟩ ∧ w.cell? ⟨g, i * 3, none⟩ = some (.bool x.str) ∧ w.cell? ⟨g, i * 3 + 1, none⟩ = some (.int .i64 x.i) ∧ w.cell? ⟨g, i * 3 + 2, none⟩ = some (.string x.s) := by
  have hi := (List.getElem?_eq_some_iff.mp hx).1
  rcases h.2 with ⟨he, h0⟩ | ⟨g, cap', cur, he, _⟩
  · omega
  · obtain ⟨rfl, _⟩ : a = some ⟨g, 0, none⟩ ∧ True := by
      have := he
      simp at this
      exact ⟨this.1, trivial⟩
    refine ⟨g, rfl, ?_⟩
    have hc := World.ownsRow.cells h (g := g) (by first | exact rfl | simp [Value.ownBlock])
    obtain ⟨a1, a2, a3⟩ := vcs_at l i hx
    have b1 := hc _ _ a1
    have b2 := hc _ _ a2
    have b3 := hc _ _ a3
    rw [addr_add] at b1 b2 b3
    exact ⟨b1, b2, b3⟩
theorem OwnC.at_ {a : Option Addr} {n cap : Nat} {l : List Cl} (h : OwnC w (.slice a n cap) l) {i : Nat} {x : Cl} (hx : l[i]? = some x) : ∃ g, a = some ⟨g, 0, none⟩ ∧ w.cell? ⟨g, i * 2, none⟩ = some (.string x.1) ∧ w.cell? ⟨g, i * 2 + 1, none⟩ = some (.bool x.2) := by
  have hi := (List.getElem?_eq_some_iff.mp hx).1
  rcases h.2 with ⟨he, h0⟩ | ⟨g, cap', cur, he, _⟩
  · omega
  · obtain ⟨rfl, _⟩ : a = some ⟨g, 0, none⟩ ∧ True := by
      have := he
      simp at this
      exact ⟨this.1, trivial⟩
    refine ⟨g, rfl, ?_⟩
    have hc := World.ownsRow.cells h (g := g) (by first | exact rfl | simp [Value.ownBlock])
    obtain ⟨a1, a2⟩ := ccs_at l i hx
    have b1 := hc _ _ a1
    have b2 := hc _ _ a2
    rw [addr_add] at b1 b2
    exact ⟨b1, b2⟩
end
theorem eInt_any (i : Int) (w : World) : Calls Tryz.prog 157 #[.int .i64 i] w fun e w' => e = .returned (vlA (vI i)) ∧ Only (fun _ => False) w w' := by
  have o0 : Only (fun _ => False) w (w.alloc (.cells #[.bool false, .int .i64 i, .string ⟨#[]⟩] 152)) := (Only.refl _ w).alloc _
  have N := Has.new w #[.bool false, .int .i64 i, .string ⟨#[]⟩] 152
  have q0 := N.cell 0
  have q1 := N.cell 1
  have q2 := N.cell 2
  simp at q0 q1 q2
  go_enter Tryz.func157, Tryz.ntmps157
  go_wp2_with fail
  exact bodyPost_ret (v := vlA (vI i)) (by simp [results, Tryz.results157, go_sem, q0, q1, q2, vlA, vI]) rfl ⟨rfl, o0⟩
theorem eStr_any (s : ByteArray) (w : World) : Calls Tryz.prog 158 #[.string s] w fun e w' => e = .returned (vlA (vS s)) ∧ Only (fun _ => False) w w' := by
  have o0 : Only (fun _ => False) w (w.alloc (.cells #[.bool true, .int .i64 0, .string s] 152)) := (Only.refl _ w).alloc _
  have N := Has.new w #[.bool true, .int .i64 0, .string s] 152
  have q0 := N.cell 0
  have q1 := N.cell 1
  have q2 := N.cell 2
  simp at q0 q1 q2
  go_enter Tryz.func158, Tryz.ntmps158
  go_wp2_with fail
  exact bodyPost_ret (v := vlA (vS s)) (by simp [results, Tryz.results158, go_sem, q0, q1, q2, vlA, vS]) rfl ⟨rfl, o0⟩
theorem ecmp_any (a b : Vl) (w : World) : Calls Tryz.prog 115 #[vlA a, vlA b] w fun e w' => e = .returned (.int .i64 (vcmp a b)) ∧ Only (fun _ => False) w w' := by
  have o0 : Only (fun _ => False) w ((w.alloc (.cells #[.bool a.str, .int .i64 a.i, .string a.s] 152)).alloc (.cells #[.bool b.str, .int .i64 b.i, .string b.s] 152)) := ((Only.refl _ w).alloc _).alloc _
  unfold vlA vcmp
  cases ha : a.str <;> cases hb : b.str
  all_goals
    rw [ha, hb] at o0
    have HO := hide o0
    clear o0
  · simp only [ne_eq, not_true, if_false, Bool.false_eq_true]
    by_cases c : a.i < b.i
    · have d1 : decide (a.i < b.i) = true := decide_eq_true c
      rw [if_pos c]
      go_enter Tryz.func115, Tryz.ntmps115
      go_wp2_with fail
      go_ret
      exact ⟨rfl, unhide HO⟩
    · have d1 : decide (a.i < b.i) = false := decide_eq_false c
      rw [if_neg c]
      by_cases c2 : b.i < a.i
      · have d2 : decide (a.i > b.i) = true := decide_eq_true c2
        have d2' : decide (b.i < a.i) = true := decide_eq_true c2
        rw [if_pos c2]
        go_enter Tryz.func115, Tryz.ntmps115
        go_wp2_with fail
        go_ret
        exact ⟨rfl, unhide HO⟩
      · have d2 : decide (a.i > b.i) = false := decide_eq_false c2
        have d2' : decide (b.i < a.i) = false := decide_eq_false c2
        rw [if_neg c2]
        go_enter Tryz.func115, Tryz.ntmps115
        go_wp2_with fail
        go_ret
        exact ⟨rfl, unhide HO⟩
  · simp only [ne_eq, Bool.false_eq_true, Bool.true_eq_false, not_false_eq_true, if_true]
    go_enter Tryz.func115, Tryz.ntmps115
    go_wp2_with fail
    go_ret
    exact ⟨by first | rfl | simp, unhide HO⟩
  · simp only [ne_eq, Bool.false_eq_true, Bool.true_eq_false, not_false_eq_true, if_true, if_false]
    go_enter Tryz.func115, Tryz.ntmps115
    go_wp2_with fail
    go_ret
    exact ⟨by first | rfl | simp, unhide HO⟩
  · simp only [ne_eq, not_true, if_false, if_true]
    cases c : lt a.s b.s with
    | true =>
      have f1 : Op.bytesLess a.s.toList b.s.toList = true := c
      simp only [if_true]
      go_enter Tryz.func115, Tryz.ntmps115
      go_wp2_with fail
      go_ret
      exact ⟨rfl, unhide HO⟩
    | false =>
      have f1 : Op.bytesLess a.s.toList b.s.toList = false := c
      simp only [Bool.false_eq_true, if_false]
      cases c2 : lt b.s a.s with
      | true =>
        have f2 : Op.bytesLess b.s.toList a.s.toList = true := c2
        have f3 : (a.s.toList == b.s.toList) = false := ba_ne (fun e => lt_ne c2 e.symm)
        simp only [if_true]
        go_enter Tryz.func115, Tryz.ntmps115
        go_wp2_with fail
        go_ret
        exact ⟨rfl, unhide HO⟩
      | false =>
        have f2 : Op.bytesLess b.s.toList a.s.toList = false := c2
        have f3 : (a.s.toList == b.s.toList) = true := by
          rcases lt_total a.s b.s with d | d | d
          · rw [c] at d; cases d
          · rw [d]; simp
          · rw [c2] at d; cases d
        simp only [Bool.false_eq_true, if_false]
        go_enter Tryz.func115, Tryz.ntmps115
        go_wp2_with fail
        go_ret
        exact ⟨rfl, unhide HO⟩
set_option maxRecDepth 100000 in
theorem evalOf_any (v : Vl) (h : v.fit) (w : World) : Calls Tryz.prog 309 #[.string (cV v), .bool v.str] w fun e w' => e = .returned (.tuple #[vlA v, .bool true]) ∧ Only (fun _ => False) w w' := by
  cases hs : v.str with
  | true =>
    have ev := Vl.fit_str h hs
    have ec : cV v = cP v.s 7 := by unfold cV; rw [hs]; rfl
    rw [ec]
    have o0 : Only (fun _ => False) w (w.alloc (.cells #[.bool false, .int .i64 0, .string ⟨#[]⟩] 152)) := (Only.refl _ w).alloc _
    have N0 := Has.new w #[.bool false, .int .i64 0, .string ⟨#[]⟩] 152
    have C1 := hide (eunpad_any v.s 7 h.2 (by omega) (w.alloc (.cells #[.bool false, .int .i64 0, .string ⟨#[]⟩] 152)))
    have C2 := hide (eStr_any v.s (w.alloc (.cells #[.bool false, .int .i64 0, .string ⟨#[]⟩] 152)))
    rw [ev]
    generalize v.s = s at *
    clear ev ec h hs
    go_enter Tryz.func309, Tryz.ntmps309
    go_wp2_with fail
    refine (unhide C1).mono ?_
    rintro e w1 ⟨rfl, rfl⟩
    go_wp2_with fail
    refine (unhide C2).mono ?_
    rintro e w2 ⟨rfl, o2⟩
    unfold vlA vS
    have N2 := N0.keep o2 (fun h => h)
    have c0 := N2.cell 0
    have c1 := N2.cell 1
    have c2 := N2.cell 2
    have f0 := N2.free 0
    have f1 := N2.free 1
    have f2 := N2.free 2
    simp at c0 c1 c2
    have N3 := ((N2.setCell 0 (.bool true)).setCell 1 (.int .i64 0)).setCell 2 (.string s)
    have o3 : Only (fun x => x = w.heap.size) w2 (((w2.setCell ⟨w.heap.size, 0, none⟩ (.bool true)).setCell ⟨w.heap.size, 1, none⟩ (.int .i64 0)).setCell ⟨w.heap.size, 2, none⟩ (.string s)) := ((only1 _ _).trans (only1 _ _) (fun _ _ h => h)).trans (only1 _ _) (fun _ _ h => h)
    have q0 := N3.cell 0
    have q1 := N3.cell 1
    have q2 := N3.cell 2
    simp at q0 q1 q2
    have HP := hide ((o0.trans o2 (fun _ _ h => h)).fresh o3 (Nat.le_refl _))
    clear N0 N2 N3 o0 o2 o3 C1 C2
    go_wp2_with fail
    exact bodyPost_ret (v := .tuple #[.agg #[.bool true, .int .i64 0, .string s], .bool true]) (by simp [results, Tryz.results309, go_sem, q0, q1, q2]) rfl ⟨rfl, unhide HP⟩
  | false =>
    obtain ⟨ev, hi⟩ := Vl.fit_int h hs
    have ec : cV v = cI v.i := by unfold cV; rw [hs]; rfl
    rw [ec]
    have o0 : Only (fun _ => False) w (w.alloc (.cells #[.bool false, .int .i64 0, .string ⟨#[]⟩] 152)) := (Only.refl _ w).alloc _
    have N0 := Has.new w #[.bool false, .int .i64 0, .string ⟨#[]⟩] 152
    have C1 := hide (eintOf_any v.i hi (w.alloc (.cells #[.bool false, .int .i64 0, .string ⟨#[]⟩] 152)))
    have C2 := hide (eInt_any v.i (w.alloc (.cells #[.bool false, .int .i64 0, .string ⟨#[]⟩] 152)))
    rw [ev]
    generalize v.i = i at *
    clear ev ec h hs hi
    go_enter Tryz.func309, Tryz.ntmps309
    go_wp2_with fail
    refine (unhide C1).mono ?_
    rintro e w1 ⟨rfl, rfl⟩
    go_wp2_with fail
    refine (unhide C2).mono ?_
    rintro e w2 ⟨rfl, o2⟩
    unfold vlA vI
    have N2 := N0.keep o2 (fun h => h)
    have c0 := N2.cell 0
    have c1 := N2.cell 1
    have c2 := N2.cell 2
    have f0 := N2.free 0
    have f1 := N2.free 1
    have f2 := N2.free 2
    simp at c0 c1 c2
    have N3 := ((N2.setCell 0 (.bool false)).setCell 1 (.int .i64 i)).setCell 2 (.string ⟨#[]⟩)
    have o3 : Only (fun x => x = w.heap.size) w2 (((w2.setCell ⟨w.heap.size, 0, none⟩ (.bool false)).setCell ⟨w.heap.size, 1, none⟩ (.int .i64 i)).setCell ⟨w.heap.size, 2, none⟩ (.string ⟨#[]⟩)) := ((only1 _ _).trans (only1 _ _) (fun _ _ h => h)).trans (only1 _ _) (fun _ _ h => h)
    have q0 := N3.cell 0
    have q1 := N3.cell 1
    have q2 := N3.cell 2
    simp at q0 q1 q2
    have HP := hide ((o0.trans o2 (fun _ _ h => h)).fresh o3 (Nat.le_refl _))
    clear N0 N2 N3 o0 o2 o3 C1 C2
    go_wp2_with fail
    exact bodyPost_ret (v := .tuple #[.agg #[.bool false, .int .i64 i, .string ⟨#[]⟩], .bool true]) (by simp [results, Tryz.results309, go_sem, q0, q1, q2]) rfl ⟨rfl, unhide HP⟩
end Go.Proofs.Qxb6500412aGreat
