/-
  OWN WORK. QUERY: the planner: PlanOf (written by tools/gen_s21.py).
-/
import Derived.Test.Qxb6500412aGreatS20
namespace Go.Proofs.Qxb6500412aGreat
open Go.RowKit Go.PlainAid
set_option linter.unusedSimpArgs false
set_option linter.unusedVariables false

theorem Tryz.sizeSQPlan : (Tryz.prog.info? 302).map (·.size) = some 10 := by kernel_rfl
def plC (k c : Int) (lo hi : Qb) : List Value := [.int .i64 k, .int .i64 c, .bool lo.1, .bool lo.2.str, .int .i64 lo.2.i, .string lo.2.s, .bool hi.1, .bool hi.2.str, .int .i64 hi.2.i, .string hi.2.s]
def plA (p : Qp) : Value := .agg (plC p.kind p.col p.lo p.hi).toArray
theorem sres_plan {fn : Func} {p : Tmp} (h : fn.results = #[.cell p 302]) (tmps : Array Value) {w : World} {g : Nat} {c : Array Value} (hp : tmps.getD p undef = .pointer (some ⟨g, 0, none⟩)) (hn : Has w g c 302) (hc : c.size = 10) : (results fn tmps).run Tryz.prog w = .ok (.agg c) w :=
  sres_cell h tmps hp (run_loadVar_row w g 302 302 _ (0, 0) _ hn Tryz.underlying302 rfl (by rw [Tryz.sizeSQPlan, hc]))
section
variable {w w' : World} {ca wa : Option Addr} {cn cc wn wk : Nat} {cols : List Cl} {l : List Cm} {tn : ByteArray} {pk ix : Int}
set_option maxRecDepth 100000 in
set_option maxHeartbeats 8000000 in
theorem sqplanOf_any (hC : OwnC w (.slice ca cn cc) cols) (hcl : cols.length ≤ 100) (hM : OwnM w (.slice wa wn wk) l) (hml : l.length ≤ 1000) (hop : ∀ c ∈ l, okOp c.op) : Calls Tryz.prog 246 #[schU tn (.slice ca cn cc) pk ix, .slice wa wn wk] w fun e w' => e = .returned (plA (planD cols pk ix l)) ∧ Only (fun _ => False) w w' := by
  unfold schU
  have o0 : Only (fun _ => False) w (w.alloc (.cells #[.string tn, .slice ca cn cc, .int .i64 pk, .int .i64 ix] 79)) := (Only.refl _ w).alloc _
  have N0 := Has.new w #[.string tn, .slice ca cn cc, .int .i64 pk, .int .i64 ix] 79
  have o1 : Only (fun _ => False) (w.alloc (.cells #[.string tn, .slice ca cn cc, .int .i64 pk, .int .i64 ix] 79)) ((w.alloc (.cells #[.string tn, .slice ca cn cc, .int .i64 pk, .int .i64 ix] 79)).alloc (.cells #[.int .i64 0, .int .i64 0, .bool false, .bool false, .int .i64 0, .string ⟨#[]⟩, .bool false, .bool false, .int .i64 0, .string ⟨#[]⟩] 302)) := (Only.refl _ _).alloc _
  have N1 := Has.new (w.alloc (.cells #[.string tn, .slice ca cn cc, .int .i64 pk, .int .i64 ix] 79)) #[.int .i64 0, .int .i64 0, .bool false, .bool false, .int .i64 0, .string ⟨#[]⟩, .bool false, .bool false, .int .i64 0, .string ⟨#[]⟩] 302
  have sz : (w.alloc (.cells #[.string tn, .slice ca cn cc, .int .i64 pk, .int .i64 ix] 79)).heap.size = w.heap.size + 1 := by simp
  rw [sz] at N1
  have oA := o0.trans o1 (fun _ _ e => e)
  have HA := hide (And.intro (N0.keep o1 (fun e => e)) (And.intro N1 (And.intro oA (And.intro (hC.keep oA (fun _ _ e => e)) (hM.keep oA (fun _ _ e => e))))))
  clear o0 N0 o1 N1 sz oA hC hM
  go_enter Tryz.func246, Tryz.ntmps246
  go_upto_region 1 with fail
  generalize (w.alloc (.cells #[.string tn, .slice ca cn cc, .int .i64 pk, .int .i64 ix] 79)).alloc (.cells #[.int .i64 0, .int .i64 0, .bool false, .bool false, .int .i64 0, .string ⟨#[]⟩, .bool false, .bool false, .int .i64 0, .string ⟨#[]⟩] 302) = w1 at *
  generalize hH : w.heap.size = H at *
  have s0 : w1.cell? ⟨H, 0, none⟩ = some (.string tn) := (unhide HA).1.cell 0
  have s1 : w1.cell? ⟨H, 1, none⟩ = some (.slice ca cn cc) := (unhide HA).1.cell 1
  have s2 : w1.cell? ⟨H, 2, none⟩ = some (.int .i64 pk) := (unhide HA).1.cell 2
  have s3 : w1.cell? ⟨H, 3, none⟩ = some (.int .i64 ix) := (unhide HA).1.cell 3
  have sl := (unhide HA).1.lt
  have C1 := sqspan_any (tn := tn) (pk := pk) (ix := ix) (unhide HA).2.2.2.1 hcl (unhide HA).2.2.2.2 hml hop pk
  unfold schU qbA bdC at C1
  obtain ⟨S, hS⟩ : ∃ S, spanD cols l pk = S := ⟨_, rfl⟩
  rw [hS] at C1
  have HS := hide hS
  have C1 := hide C1
  clear hS
  go_wp2_with fail
  refine (unhide C1).mono ?_
  rintro e w2 ⟨rfl, o2⟩
  have HA2 := hide (And.intro ((unhide HA).1.keep o2 (fun e => e)) (And.intro ((unhide HA).2.1.keep o2 (fun e => e)) ((unhide HA).2.2.1.trans o2 (fun _ _ e => e))))
  have l2 := (unhide HA2).2.1.lt
  clear C1 s0 s1 s2 s3 sl
  have a0 : Only (fun _ => False) w2 (w2.alloc (.cells #[.bool S.lo.1, .bool S.lo.2.str, .int .i64 S.lo.2.i, .string S.lo.2.s] 244)) := (Only.refl _ _).alloc _
  have n0 := Has.new w2 #[.bool S.lo.1, .bool S.lo.2.str, .int .i64 S.lo.2.i, .string S.lo.2.s] 244
  have z0 : w2.heap.size = w2.heap.size + 0 := by simp
  rw [z0] at n0
  have a1 : Only (fun _ => False) (w2.alloc (.cells #[.bool S.lo.1, .bool S.lo.2.str, .int .i64 S.lo.2.i, .string S.lo.2.s] 244)) ((w2.alloc (.cells #[.bool S.lo.1, .bool S.lo.2.str, .int .i64 S.lo.2.i, .string S.lo.2.s] 244)).alloc (.cells #[.bool S.hi.1, .bool S.hi.2.str, .int .i64 S.hi.2.i, .string S.hi.2.s] 244)) := (Only.refl _ _).alloc _
  have n1 := Has.new (w2.alloc (.cells #[.bool S.lo.1, .bool S.lo.2.str, .int .i64 S.lo.2.i, .string S.lo.2.s] 244)) #[.bool S.hi.1, .bool S.hi.2.str, .int .i64 S.hi.2.i, .string S.hi.2.s] 244
  have z1 : (w2.alloc (.cells #[.bool S.lo.1, .bool S.lo.2.str, .int .i64 S.lo.2.i, .string S.lo.2.s] 244)).heap.size = w2.heap.size + 1 := by simp
  rw [z1] at n1
  have a2 : Only (fun _ => False) ((w2.alloc (.cells #[.bool S.lo.1, .bool S.lo.2.str, .int .i64 S.lo.2.i, .string S.lo.2.s] 244)).alloc (.cells #[.bool S.hi.1, .bool S.hi.2.str, .int .i64 S.hi.2.i, .string S.hi.2.s] 244)) (((w2.alloc (.cells #[.bool S.lo.1, .bool S.lo.2.str, .int .i64 S.lo.2.i, .string S.lo.2.s] 244)).alloc (.cells #[.bool S.hi.1, .bool S.hi.2.str, .int .i64 S.hi.2.i, .string S.hi.2.s] 244)).alloc (.cells #[.bool S.eq.1, .bool S.eq.2.str, .int .i64 S.eq.2.i, .string S.eq.2.s] 244)) := (Only.refl _ _).alloc _
  have n2 := Has.new ((w2.alloc (.cells #[.bool S.lo.1, .bool S.lo.2.str, .int .i64 S.lo.2.i, .string S.lo.2.s] 244)).alloc (.cells #[.bool S.hi.1, .bool S.hi.2.str, .int .i64 S.hi.2.i, .string S.hi.2.s] 244)) #[.bool S.eq.1, .bool S.eq.2.str, .int .i64 S.eq.2.i, .string S.eq.2.s] 244
  have z2 : ((w2.alloc (.cells #[.bool S.lo.1, .bool S.lo.2.str, .int .i64 S.lo.2.i, .string S.lo.2.s] 244)).alloc (.cells #[.bool S.hi.1, .bool S.hi.2.str, .int .i64 S.hi.2.i, .string S.hi.2.s] 244)).heap.size = w2.heap.size + 2 := by simp
  rw [z2] at n2
  have aA := (a0.trans a1 (fun _ _ e => e)).trans a2 (fun _ _ e => e)
  have HB := hide (show Has (((w2.alloc (.cells #[.bool S.lo.1, .bool S.lo.2.str, .int .i64 S.lo.2.i, .string S.lo.2.s] 244)).alloc (.cells #[.bool S.hi.1, .bool S.hi.2.str, .int .i64 S.hi.2.i, .string S.hi.2.s] 244)).alloc (.cells #[.bool S.eq.1, .bool S.eq.2.str, .int .i64 S.eq.2.i, .string S.eq.2.s] 244)) H #[.string tn, .slice ca cn cc, .int .i64 pk, .int .i64 ix] 79 ∧ Has (((w2.alloc (.cells #[.bool S.lo.1, .bool S.lo.2.str, .int .i64 S.lo.2.i, .string S.lo.2.s] 244)).alloc (.cells #[.bool S.hi.1, .bool S.hi.2.str, .int .i64 S.hi.2.i, .string S.hi.2.s] 244)).alloc (.cells #[.bool S.eq.1, .bool S.eq.2.str, .int .i64 S.eq.2.i, .string S.eq.2.s] 244)) (H + 1) #[.int .i64 0, .int .i64 0, .bool false, .bool false, .int .i64 0, .string ⟨#[]⟩, .bool false, .bool false, .int .i64 0, .string ⟨#[]⟩] 302 ∧ Only (fun _ => False) w (((w2.alloc (.cells #[.bool S.lo.1, .bool S.lo.2.str, .int .i64 S.lo.2.i, .string S.lo.2.s] 244)).alloc (.cells #[.bool S.hi.1, .bool S.hi.2.str, .int .i64 S.hi.2.i, .string S.hi.2.s] 244)).alloc (.cells #[.bool S.eq.1, .bool S.eq.2.str, .int .i64 S.eq.2.i, .string S.eq.2.s] 244)) ∧ Has (((w2.alloc (.cells #[.bool S.lo.1, .bool S.lo.2.str, .int .i64 S.lo.2.i, .string S.lo.2.s] 244)).alloc (.cells #[.bool S.hi.1, .bool S.hi.2.str, .int .i64 S.hi.2.i, .string S.hi.2.s] 244)).alloc (.cells #[.bool S.eq.1, .bool S.eq.2.str, .int .i64 S.eq.2.i, .string S.eq.2.s] 244)) w2.heap.size (bdC S.lo) 244 ∧ Has (((w2.alloc (.cells #[.bool S.lo.1, .bool S.lo.2.str, .int .i64 S.lo.2.i, .string S.lo.2.s] 244)).alloc (.cells #[.bool S.hi.1, .bool S.hi.2.str, .int .i64 S.hi.2.i, .string S.hi.2.s] 244)).alloc (.cells #[.bool S.eq.1, .bool S.eq.2.str, .int .i64 S.eq.2.i, .string S.eq.2.s] 244)) (w2.heap.size + 1) (bdC S.hi) 244 ∧ Has (((w2.alloc (.cells #[.bool S.lo.1, .bool S.lo.2.str, .int .i64 S.lo.2.i, .string S.lo.2.s] 244)).alloc (.cells #[.bool S.hi.1, .bool S.hi.2.str, .int .i64 S.hi.2.i, .string S.hi.2.s] 244)).alloc (.cells #[.bool S.eq.1, .bool S.eq.2.str, .int .i64 S.eq.2.i, .string S.eq.2.s] 244)) (w2.heap.size + 2) (bdC S.eq) 244 ∧ OwnC (((w2.alloc (.cells #[.bool S.lo.1, .bool S.lo.2.str, .int .i64 S.lo.2.i, .string S.lo.2.s] 244)).alloc (.cells #[.bool S.hi.1, .bool S.hi.2.str, .int .i64 S.hi.2.i, .string S.hi.2.s] 244)).alloc (.cells #[.bool S.eq.1, .bool S.eq.2.str, .int .i64 S.eq.2.i, .string S.eq.2.s] 244)) (.slice ca cn cc) cols ∧ OwnM (((w2.alloc (.cells #[.bool S.lo.1, .bool S.lo.2.str, .int .i64 S.lo.2.i, .string S.lo.2.s] 244)).alloc (.cells #[.bool S.hi.1, .bool S.hi.2.str, .int .i64 S.hi.2.i, .string S.hi.2.s] 244)).alloc (.cells #[.bool S.eq.1, .bool S.eq.2.str, .int .i64 S.eq.2.i, .string S.eq.2.s] 244)) (.slice wa wn wk) l from ⟨(unhide HA2).1.keep aA (fun e => e), (unhide HA2).2.1.keep aA (fun e => e), (unhide HA2).2.2.trans aA (fun _ _ e => e), n0.keep (a1.trans a2 (fun _ _ e => e)) (fun e => e), n1.keep a2 (fun e => e), n2, ((unhide HA).2.2.2.1.keep o2 (fun _ _ e => e)).keep aA (fun _ _ e => e), ((unhide HA).2.2.2.2.keep o2 (fun _ _ e => e)).keep aA (fun _ _ e => e)⟩)
  clear a0 a1 a2 n0 n1 n2 z0 z1 z2 aA HA HA2 o2
  go_upto_region 2 with fail
  generalize (((w2.alloc (.cells #[.bool S.lo.1, .bool S.lo.2.str, .int .i64 S.lo.2.i, .string S.lo.2.s] 244)).alloc (.cells #[.bool S.hi.1, .bool S.hi.2.str, .int .i64 S.hi.2.i, .string S.hi.2.s] 244)).alloc (.cells #[.bool S.eq.1, .bool S.eq.2.str, .int .i64 S.eq.2.i, .string S.eq.2.s] 244)) = w3 at *
  generalize w2.heap.size = P at *
  have e0 : w3.cell? ⟨P + 2, 0, none⟩ = some (.bool S.eq.1) := (unhide HB).2.2.2.2.2.1.cell 0
  have e1 : w3.cell? ⟨P + 2, 1, none⟩ = some (.bool S.eq.2.str) := (unhide HB).2.2.2.2.2.1.cell 1
  have e2 : w3.cell? ⟨P + 2, 2, none⟩ = some (.int .i64 S.eq.2.i) := (unhide HB).2.2.2.2.2.1.cell 2
  have e3 : w3.cell? ⟨P + 2, 3, none⟩ = some (.string S.eq.2.s) := (unhide HB).2.2.2.2.2.1.cell 3
  have el := (unhide HB).2.2.2.2.2.1.lt
  have lo0 : w3.cell? ⟨P, 0, none⟩ = some (.bool S.lo.1) := (unhide HB).2.2.2.1.cell 0
  have lo1 : w3.cell? ⟨P, 1, none⟩ = some (.bool S.lo.2.str) := (unhide HB).2.2.2.1.cell 1
  have lo2 : w3.cell? ⟨P, 2, none⟩ = some (.int .i64 S.lo.2.i) := (unhide HB).2.2.2.1.cell 2
  have lo3 : w3.cell? ⟨P, 3, none⟩ = some (.string S.lo.2.s) := (unhide HB).2.2.2.1.cell 3
  have lol := (unhide HB).2.2.2.1.lt
  have hi0 : w3.cell? ⟨P + 1, 0, none⟩ = some (.bool S.hi.1) := (unhide HB).2.2.2.2.1.cell 0
  have hi1 : w3.cell? ⟨P + 1, 1, none⟩ = some (.bool S.hi.2.str) := (unhide HB).2.2.2.2.1.cell 1
  have hi2 : w3.cell? ⟨P + 1, 2, none⟩ = some (.int .i64 S.hi.2.i) := (unhide HB).2.2.2.2.1.cell 2
  have hi3 : w3.cell? ⟨P + 1, 3, none⟩ = some (.string S.hi.2.s) := (unhide HB).2.2.2.2.1.cell 3
  have hil := (unhide HB).2.2.2.2.1.lt
  have s2 : w3.cell? ⟨H, 2, none⟩ = some (.int .i64 pk) := (unhide HB).1.cell 2
  have s3 : w3.cell? ⟨H, 3, none⟩ = some (.int .i64 ix) := (unhide HB).1.cell 3
  have sl := (unhide HB).1.lt
  have p0 : w3.cell? ⟨H + 1, 0, none⟩ = some (.int .i64 0) := (unhide HB).2.1.cell 0
  have pf0 := (unhide HB).2.1.free 0
  have p1 : w3.cell? ⟨H + 1, 1, none⟩ = some (.int .i64 0) := (unhide HB).2.1.cell 1
  have pf1 := (unhide HB).2.1.free 1
  have p2 : w3.cell? ⟨H + 1, 2, none⟩ = some (.bool false) := (unhide HB).2.1.cell 2
  have pf2 := (unhide HB).2.1.free 2
  have p3 : w3.cell? ⟨H + 1, 3, none⟩ = some (.bool false) := (unhide HB).2.1.cell 3
  have pf3 := (unhide HB).2.1.free 3
  have p4 : w3.cell? ⟨H + 1, 4, none⟩ = some (.int .i64 0) := (unhide HB).2.1.cell 4
  have pf4 := (unhide HB).2.1.free 4
  have p5 : w3.cell? ⟨H + 1, 5, none⟩ = some (.string ⟨#[]⟩) := (unhide HB).2.1.cell 5
  have pf5 := (unhide HB).2.1.free 5
  have p6 : w3.cell? ⟨H + 1, 6, none⟩ = some (.bool false) := (unhide HB).2.1.cell 6
  have pf6 := (unhide HB).2.1.free 6
  have p7 : w3.cell? ⟨H + 1, 7, none⟩ = some (.bool false) := (unhide HB).2.1.cell 7
  have pf7 := (unhide HB).2.1.free 7
  have p8 : w3.cell? ⟨H + 1, 8, none⟩ = some (.int .i64 0) := (unhide HB).2.1.cell 8
  have pf8 := (unhide HB).2.1.free 8
  have p9 : w3.cell? ⟨H + 1, 9, none⟩ = some (.string ⟨#[]⟩) := (unhide HB).2.1.cell 9
  have pf9 := (unhide HB).2.1.free 9
  have pl := (unhide HB).2.1.lt
  obtain ⟨eb, heb⟩ : ∃ b, S.eq.1 = b := ⟨_, rfl⟩
  have Heb := hide heb
  clear heb
  cases eb with
  | true =>
    have e0' := e0
    rw [unhide Heb] at e0
    have FF0 := unhide Heb
    have FF := hide (show Has (setW (H + 1) (plC 1 pk S.eq S.eq) 0 w3) (H + 1) (plC 1 pk S.eq S.eq).toArray 302 ∧ Only (fun _ => False) w (setW (H + 1) (plC 1 pk S.eq S.eq) 0 w3) from ⟨has_setAll (plC 1 pk S.eq S.eq) (unhide HB).2.1 rfl, (unhide HB).2.2.1.lateS (only_setW (H + 1) (plC 1 pk S.eq S.eq) 0 w3) (fun k (hk : k = H + 1) => by omega)⟩)
    have HP := hide (show planD cols pk ix l = ⟨1, pk, S.eq, S.eq⟩ by unfold planD; rw [unhide HS, if_pos (unhide Heb)])
    unfold plC at FF
    rw [FF0] at FF
    simp only [setW, Nat.zero_add, Nat.reduceAdd] at FF
    clear FF0 e0'
    go_wp2_with fail
    refine bodyPost_ret (sres_plan rfl _ rfl (unhide FF).1 rfl) rfl ?_
    exact ⟨by rw [unhide HP]; unfold plA plC; simp only; rw [unhide Heb], (unhide FF).2⟩
  | false =>
    rw [unhide Heb] at e0
    by_cases hn : 0 < S.n
    · have q1 : decide ((S.n : Int) > 0) = true := decide_eq_true (by omega)
      have q1p : (S.n : Int) > 0 := by omega
      have FF := hide (show Has (setW (H + 1) (plC 2 pk S.lo S.hi) 0 w3) (H + 1) (plC 2 pk S.lo S.hi).toArray 302 ∧ Only (fun _ => False) w (setW (H + 1) (plC 2 pk S.lo S.hi) 0 w3) from ⟨has_setAll (plC 2 pk S.lo S.hi) (unhide HB).2.1 rfl, (unhide HB).2.2.1.lateS (only_setW (H + 1) (plC 2 pk S.lo S.hi) 0 w3) (fun k (hk : k = H + 1) => by omega)⟩)
      have HP := hide (show planD cols pk ix l = ⟨2, pk, S.lo, S.hi⟩ by unfold planD; rw [unhide HS, if_neg (by rw [unhide Heb]; decide), if_pos hn])
      unfold plC at FF
      (try unfold qb0 at FF)
      simp only [setW, Nat.zero_add, Nat.reduceAdd] at FF
      clear hn
      go_wp2_with fail
      refine bodyPost_ret (sres_plan rfl _ rfl (unhide FF).1 rfl) rfl ?_
      exact ⟨by rw [unhide HP]; rfl, (unhide FF).2⟩
    · have q1 : decide ((S.n : Int) > 0) = false := decide_eq_false (by omega)
      have q1p : ¬ (S.n : Int) > 0 := by omega
      have Hn := hide hn
      clear hn
      by_cases hx : 0 ≤ ix
      · have q2 : decide (ix ≥ 0) = true := decide_eq_true hx
        have q2p : ix ≥ 0 := hx
        have s0 : w3.cell? ⟨H, 0, none⟩ = some (.string tn) := (unhide HB).1.cell 0
        have s1 : w3.cell? ⟨H, 1, none⟩ = some (.slice ca cn cc) := (unhide HB).1.cell 1
        have C1 := sqspan_any (tn := tn) (pk := pk) (ix := ix) (unhide HB).2.2.2.2.2.2.1 hcl (unhide HB).2.2.2.2.2.2.2 hml hop ix
        unfold schU qbA bdC at C1
        obtain ⟨T, hT⟩ : ∃ S, spanD cols l ix = S := ⟨_, rfl⟩
        rw [hT] at C1
        have HT := hide hT
        have C1 := hide C1
        clear hT
        go_wp2_with fail
        refine (unhide C1).mono ?_
        rintro e w4 ⟨rfl, o4⟩
        have HB4 := hide (show Has w4 H #[.string tn, .slice ca cn cc, .int .i64 pk, .int .i64 ix] 79 ∧ Has w4 (H + 1) #[.int .i64 0, .int .i64 0, .bool false, .bool false, .int .i64 0, .string ⟨#[]⟩, .bool false, .bool false, .int .i64 0, .string ⟨#[]⟩] 302 ∧ Only (fun _ => False) w w4 ∧ Has w4 P (bdC S.lo) 244 ∧ Has w4 (P + 1) (bdC S.hi) 244 from ⟨(unhide HB).1.keep o4 (fun e => e), (unhide HB).2.1.keep o4 (fun e => e), (unhide HB).2.2.1.trans o4 (fun _ _ e => e), (unhide HB).2.2.2.1.keep o4 (fun e => e), (unhide HB).2.2.2.2.1.keep o4 (fun e => e)⟩)
        clear C1 o4 s0 s1 s2 s3 sl e0 e1 e2 e3 el lo0 lo1 lo2 lo3 lol hi0 hi1 hi2 hi3 hil p0 p1 p2 p3 p4 p5 p6 p7 p8 p9 pf0 pf1 pf2 pf3 pf4 pf5 pf6 pf7 pf8 pf9 pl
        have lo0 : w4.cell? ⟨P, 0, none⟩ = some (.bool S.lo.1) := (unhide HB4).2.2.2.1.cell 0
        have lof0 := (unhide HB4).2.2.2.1.free 0
        have lo1 : w4.cell? ⟨P, 1, none⟩ = some (.bool S.lo.2.str) := (unhide HB4).2.2.2.1.cell 1
        have lof1 := (unhide HB4).2.2.2.1.free 1
        have lo2 : w4.cell? ⟨P, 2, none⟩ = some (.int .i64 S.lo.2.i) := (unhide HB4).2.2.2.1.cell 2
        have lof2 := (unhide HB4).2.2.2.1.free 2
        have lo3 : w4.cell? ⟨P, 3, none⟩ = some (.string S.lo.2.s) := (unhide HB4).2.2.2.1.cell 3
        have lof3 := (unhide HB4).2.2.2.1.free 3
        have lol := (unhide HB4).2.2.2.1.lt
        have hi0 : w4.cell? ⟨P + 1, 0, none⟩ = some (.bool S.hi.1) := (unhide HB4).2.2.2.2.cell 0
        have hif0 := (unhide HB4).2.2.2.2.free 0
        have hi1 : w4.cell? ⟨P + 1, 1, none⟩ = some (.bool S.hi.2.str) := (unhide HB4).2.2.2.2.cell 1
        have hif1 := (unhide HB4).2.2.2.2.free 1
        have hi2 : w4.cell? ⟨P + 1, 2, none⟩ = some (.int .i64 S.hi.2.i) := (unhide HB4).2.2.2.2.cell 2
        have hif2 := (unhide HB4).2.2.2.2.free 2
        have hi3 : w4.cell? ⟨P + 1, 3, none⟩ = some (.string S.hi.2.s) := (unhide HB4).2.2.2.2.cell 3
        have hif3 := (unhide HB4).2.2.2.2.free 3
        have hil := (unhide HB4).2.2.2.2.lt
        have u1 := only_setW P [.bool T.lo.1, .bool T.lo.2.str, .int .i64 T.lo.2.i, .string T.lo.2.s] 0 w4
        have u2 := only_setW (P + 1) [.bool T.hi.1, .bool T.hi.2.str, .int .i64 T.hi.2.i, .string T.hi.2.s] 0 (setW P [.bool T.lo.1, .bool T.lo.2.str, .int .i64 T.lo.2.i, .string T.lo.2.s] 0 w4)
        have v1 := has_setAll [.bool T.lo.1, .bool T.lo.2.str, .int .i64 T.lo.2.i, .string T.lo.2.s] (unhide HB4).2.2.2.1 rfl
        have v2 := has_setAll [.bool T.hi.1, .bool T.hi.2.str, .int .i64 T.hi.2.i, .string T.hi.2.s] ((unhide HB4).2.2.2.2.keep u1 (fun (c : P + 1 = P) => by omega)) rfl
        have HB5 := hide (show Has (setW (P + 1) [.bool T.hi.1, .bool T.hi.2.str, .int .i64 T.hi.2.i, .string T.hi.2.s] 0 (setW P [.bool T.lo.1, .bool T.lo.2.str, .int .i64 T.lo.2.i, .string T.lo.2.s] 0 w4)) H #[.string tn, .slice ca cn cc, .int .i64 pk, .int .i64 ix] 79 ∧ Has (setW (P + 1) [.bool T.hi.1, .bool T.hi.2.str, .int .i64 T.hi.2.i, .string T.hi.2.s] 0 (setW P [.bool T.lo.1, .bool T.lo.2.str, .int .i64 T.lo.2.i, .string T.lo.2.s] 0 w4)) (H + 1) #[.int .i64 0, .int .i64 0, .bool false, .bool false, .int .i64 0, .string ⟨#[]⟩, .bool false, .bool false, .int .i64 0, .string ⟨#[]⟩] 302 ∧ Only (fun _ => False) w (setW (P + 1) [.bool T.hi.1, .bool T.hi.2.str, .int .i64 T.hi.2.i, .string T.hi.2.s] 0 (setW P [.bool T.lo.1, .bool T.lo.2.str, .int .i64 T.lo.2.i, .string T.lo.2.s] 0 w4)) ∧ Has (setW (P + 1) [.bool T.hi.1, .bool T.hi.2.str, .int .i64 T.hi.2.i, .string T.hi.2.s] 0 (setW P [.bool T.lo.1, .bool T.lo.2.str, .int .i64 T.lo.2.i, .string T.lo.2.s] 0 w4)) P (bdC T.lo) 244 ∧ Has (setW (P + 1) [.bool T.hi.1, .bool T.hi.2.str, .int .i64 T.hi.2.i, .string T.hi.2.s] 0 (setW P [.bool T.lo.1, .bool T.lo.2.str, .int .i64 T.lo.2.i, .string T.lo.2.s] 0 w4)) (P + 1) (bdC T.hi) 244 from ⟨((unhide HB4).1.keep u1 (fun (c : H = P) => by omega)).keep u2 (fun (c : H = P + 1) => by omega), ((unhide HB4).2.1.keep u1 (fun (c : H + 1 = P) => by omega)).keep u2 (fun (c : H + 1 = P + 1) => by omega), ((unhide HB4).2.2.1.lateS u1 (fun k (hk : k = P) => by omega)).lateS u2 (fun k (hk : k = P + 1) => by omega), v1.keep u2 (fun (c : P = P + 1) => by omega), v2⟩)
        simp only [setW, Nat.zero_add, Nat.reduceAdd] at HB5
        clear u1 u2 v1 v2
        go_upto_region 8 with fail
        generalize ((((((((w4.setCell ⟨P, 0, none⟩ (.bool T.lo.1)).setCell ⟨P, 1, none⟩ (.bool T.lo.2.str)).setCell ⟨P, 2, none⟩ (.int .i64 T.lo.2.i)).setCell ⟨P, 3, none⟩ (.string T.lo.2.s)).setCell ⟨P + 1, 0, none⟩ (.bool T.hi.1)).setCell ⟨P + 1, 1, none⟩ (.bool T.hi.2.str)).setCell ⟨P + 1, 2, none⟩ (.int .i64 T.hi.2.i)).setCell ⟨P + 1, 3, none⟩ (.string T.hi.2.s)) = w5 at *
        clear lo0 lo1 lo2 lo3 lol hi0 hi1 hi2 hi3 hil lof0 lof1 lof2 lof3 hif0 hif1 hif2 hif3 HB4
        have lo0 : w5.cell? ⟨P, 0, none⟩ = some (.bool T.lo.1) := (unhide HB5).2.2.2.1.cell 0
        have lo1 : w5.cell? ⟨P, 1, none⟩ = some (.bool T.lo.2.str) := (unhide HB5).2.2.2.1.cell 1
        have lo2 : w5.cell? ⟨P, 2, none⟩ = some (.int .i64 T.lo.2.i) := (unhide HB5).2.2.2.1.cell 2
        have lo3 : w5.cell? ⟨P, 3, none⟩ = some (.string T.lo.2.s) := (unhide HB5).2.2.2.1.cell 3
        have lol := (unhide HB5).2.2.2.1.lt
        have hi0 : w5.cell? ⟨P + 1, 0, none⟩ = some (.bool T.hi.1) := (unhide HB5).2.2.2.2.cell 0
        have hi1 : w5.cell? ⟨P + 1, 1, none⟩ = some (.bool T.hi.2.str) := (unhide HB5).2.2.2.2.cell 1
        have hi2 : w5.cell? ⟨P + 1, 2, none⟩ = some (.int .i64 T.hi.2.i) := (unhide HB5).2.2.2.2.cell 2
        have hi3 : w5.cell? ⟨P + 1, 3, none⟩ = some (.string T.hi.2.s) := (unhide HB5).2.2.2.2.cell 3
        have hil := (unhide HB5).2.2.2.2.lt
        have s2 : w5.cell? ⟨H, 2, none⟩ = some (.int .i64 pk) := (unhide HB5).1.cell 2
        have s3 : w5.cell? ⟨H, 3, none⟩ = some (.int .i64 ix) := (unhide HB5).1.cell 3
        have sl := (unhide HB5).1.lt
        have p0 : w5.cell? ⟨H + 1, 0, none⟩ = some (.int .i64 0) := (unhide HB5).2.1.cell 0
        have pf0 := (unhide HB5).2.1.free 0
        have p1 : w5.cell? ⟨H + 1, 1, none⟩ = some (.int .i64 0) := (unhide HB5).2.1.cell 1
        have pf1 := (unhide HB5).2.1.free 1
        have p2 : w5.cell? ⟨H + 1, 2, none⟩ = some (.bool false) := (unhide HB5).2.1.cell 2
        have pf2 := (unhide HB5).2.1.free 2
        have p3 : w5.cell? ⟨H + 1, 3, none⟩ = some (.bool false) := (unhide HB5).2.1.cell 3
        have pf3 := (unhide HB5).2.1.free 3
        have p4 : w5.cell? ⟨H + 1, 4, none⟩ = some (.int .i64 0) := (unhide HB5).2.1.cell 4
        have pf4 := (unhide HB5).2.1.free 4
        have p5 : w5.cell? ⟨H + 1, 5, none⟩ = some (.string ⟨#[]⟩) := (unhide HB5).2.1.cell 5
        have pf5 := (unhide HB5).2.1.free 5
        have p6 : w5.cell? ⟨H + 1, 6, none⟩ = some (.bool false) := (unhide HB5).2.1.cell 6
        have pf6 := (unhide HB5).2.1.free 6
        have p7 : w5.cell? ⟨H + 1, 7, none⟩ = some (.bool false) := (unhide HB5).2.1.cell 7
        have pf7 := (unhide HB5).2.1.free 7
        have p8 : w5.cell? ⟨H + 1, 8, none⟩ = some (.int .i64 0) := (unhide HB5).2.1.cell 8
        have pf8 := (unhide HB5).2.1.free 8
        have p9 : w5.cell? ⟨H + 1, 9, none⟩ = some (.string ⟨#[]⟩) := (unhide HB5).2.1.cell 9
        have pf9 := (unhide HB5).2.1.free 9
        have pl := (unhide HB5).2.1.lt
        by_cases ht : 0 < T.n
        · have q3 : decide ((T.n : Int) > 0) = true := decide_eq_true (by omega)
          have q3p : (T.n : Int) > 0 := by omega
          have FF := hide (show Has (setW (H + 1) (plC 3 ix T.lo T.hi) 0 w5) (H + 1) (plC 3 ix T.lo T.hi).toArray 302 ∧ Only (fun _ => False) w (setW (H + 1) (plC 3 ix T.lo T.hi) 0 w5) from ⟨has_setAll (plC 3 ix T.lo T.hi) (unhide HB5).2.1 rfl, (unhide HB5).2.2.1.lateS (only_setW (H + 1) (plC 3 ix T.lo T.hi) 0 w5) (fun k (hk : k = H + 1) => by omega)⟩)
          have HP := hide (show planD cols pk ix l = ⟨3, ix, T.lo, T.hi⟩ by unfold planD; rw [unhide HS, unhide HT, if_neg (by rw [unhide Heb]; decide), if_neg (unhide Hn), if_pos ⟨hx, ht⟩])
          unfold plC at FF
          (try unfold qb0 at FF)
          simp only [setW, Nat.zero_add, Nat.reduceAdd] at FF
          clear ht
          go_wp2_with fail
          refine bodyPost_ret (sres_plan rfl _ rfl (unhide FF).1 rfl) rfl ?_
          exact ⟨by rw [unhide HP]; rfl, (unhide FF).2⟩
        · have q3 : decide ((T.n : Int) > 0) = false := decide_eq_false (by omega)
          have q3p : ¬ (T.n : Int) > 0 := by omega
          have FF := hide (show Has (setW (H + 1) (plC 4 pk qb0 qb0) 0 w5) (H + 1) (plC 4 pk qb0 qb0).toArray 302 ∧ Only (fun _ => False) w (setW (H + 1) (plC 4 pk qb0 qb0) 0 w5) from ⟨has_setAll (plC 4 pk qb0 qb0) (unhide HB5).2.1 rfl, (unhide HB5).2.2.1.lateS (only_setW (H + 1) (plC 4 pk qb0 qb0) 0 w5) (fun k (hk : k = H + 1) => by omega)⟩)
          have HP := hide (show planD cols pk ix l = ⟨4, pk, qb0, qb0⟩ by unfold planD; rw [unhide HS, unhide HT, if_neg (by rw [unhide Heb]; decide), if_neg (unhide Hn), if_neg (fun c => ht c.2)])
          unfold plC at FF
          (try unfold qb0 at FF)
          simp only [setW, Nat.zero_add, Nat.reduceAdd] at FF
          clear ht
          go_wp2_with fail
          refine bodyPost_ret (sres_plan rfl _ rfl (unhide FF).1 rfl) rfl ?_
          exact ⟨by rw [unhide HP]; rfl, (unhide FF).2⟩
      · have q2 : decide (ix ≥ 0) = false := decide_eq_false hx
        have q2p : ¬ ix ≥ 0 := hx
        have FF := hide (show Has (setW (H + 1) (plC 4 pk qb0 qb0) 0 w3) (H + 1) (plC 4 pk qb0 qb0).toArray 302 ∧ Only (fun _ => False) w (setW (H + 1) (plC 4 pk qb0 qb0) 0 w3) from ⟨has_setAll (plC 4 pk qb0 qb0) (unhide HB).2.1 rfl, (unhide HB).2.2.1.lateS (only_setW (H + 1) (plC 4 pk qb0 qb0) 0 w3) (fun k (hk : k = H + 1) => by omega)⟩)
        have HP := hide (show planD cols pk ix l = ⟨4, pk, qb0, qb0⟩ by unfold planD; rw [unhide HS, if_neg (by rw [unhide Heb]; decide), if_neg (unhide Hn), if_neg (fun c => hx c.1)])
        unfold plC at FF
        (try unfold qb0 at FF)
        simp only [setW, Nat.zero_add, Nat.reduceAdd] at FF
        clear hx
        go_wp2_with fail
        refine bodyPost_ret (sres_plan rfl _ rfl (unhide FF).1 rfl) rfl ?_
        exact ⟨by rw [unhide HP]; rfl, (unhide FF).2⟩
end
end Go.Proofs.Qxb6500412aGreat
