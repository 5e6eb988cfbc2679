/-
  OWN WORK. THE B-TREE LAW: Look, SameShot.
-/
import Derived.Test.Qxb6500410aGreatZVw
import Derived.Test.Qxb6500410aGreatBBel
import Derived.Deep.RegionHeld3
import Derived.Deep.DeepCutAuto
import Derived.Deep.QuietTactic
import Derived.BigQuiet
namespace Go.Proofs.Qxb6500410aGreat
open Go.RowKit Go.PlainAid
set_option linter.unusedSimpArgs false
set_option linter.unusedVariables false

theorem onlyQ {B : Nat → Prop} (w : World) (n : Nat) : Only B w (w.drewN n) := by
  induction n with
  | zero => exact Only.refl _ _
  | succ n ih => exact ih.drew
def shU (view : List ByteArray) (n j : Nat) : Value := .bool (if j < n then (NV view j).isSome else false)
def shP (view : List ByteArray) (n j : Nat) : Value := .string (if j < n then (NV view j).getD emptyB else emptyB)
structure ShAt (w : World) (s ub pb : Nat) (op : Bool) (view : List ByteArray) (m n : Nat) : Prop where
  s : Has w s #[.bool op, .slice (some ⟨ub, 0, none⟩) 72 72, .slice (some ⟨pb, 0, none⟩) 72 72] 88
  u : Has w ub (tabV 72 (shU view m)) 4
  p : Has w pb (tabV 72 (shP view n)) 89
section
variable {w w' : World} {s ub pb : Nat} {op : Bool} {view : List ByteArray} {m n : Nat} {q : Gnd}
theorem ShAt.keep {B : Nat → Prop} (h : ShAt w s ub pb op view m n) (ho : Only B w w') (h1 : ¬ B s) (h2 : ¬ B ub) (h3 : ¬ B pb) : ShAt w' s ub pb op view m n := ⟨h.s.keep ho h1, h.u.keep ho h2, h.p.keep ho h3⟩
theorem ShAt.quiet (h : ShAt w s ub pb op view m n) (ho : Only (fun _ => False) w w') : ShAt w' s ub pb op view m n := h.keep ho (fun h => h) (fun h => h) (fun h => h)
theorem qused_any (A : FA q w op view) (n : Nat) : Calls Tryz.prog 52 #[.pointer (some ⟨q.p, 0, none⟩), .int .i64 n] w fun e w' => e = .returned (.bool (NV view n).isSome) ∧ FA q w' op view ∧ Only q.S w w' := by
  by_cases h : 1 ≤ n ∧ n < 72
  · refine (pused_in A.pg n h.1 h.2).mono ?_
    rintro e w' ⟨rfl, h1, o1⟩
    refine ⟨?_, A.turn h1 o1, o1⟩
    cases hu : usedV view n with
    | true => rw [NV_in h.1 h.2 hu]; rfl
    | false => rw [NV_free hu]; rfl
  · refine (pused_out q.p n (by omega) w).mono ?_
    rintro e w' ⟨rfl, rfl⟩
    exact ⟨by rw [NV_out h]; rfl, A, Only.refl _ _⟩
theorem qgetN_any (A : FA q w op view) (n : Nat) : Calls Tryz.prog 53 #[.pointer (some ⟨q.p, 0, none⟩), .int .i64 n] w fun e w' => ∃ c : Int, e = .returned (.tuple #[.string ((NV view n).getD emptyB), .int .i64 c]) ∧ FA q w' op view ∧ Only q.S w w' := by
  by_cases h : 1 ≤ n ∧ n < 72
  · cases hu : usedV view n with
    | true =>
      refine (pget_used A.pg n h.1 h.2 hu).mono ?_
      rintro e w' ⟨rfl, h1, o1⟩
      exact ⟨0, by rw [NV_in h.1 h.2 hu]; rfl, A.turn h1.pg o1, o1⟩
    | false =>
      refine (pget_free A.pg n h.1 h.2 hu).mono ?_
      rintro e w' ⟨rfl, h1, o1⟩
      exact ⟨5, by rw [NV_free hu]; rfl, A.turn h1 o1, o1⟩
  · refine (pget_out q.p n (by omega) w).mono ?_
    rintro e w' ⟨rfl, rfl⟩
    exact ⟨5, by rw [NV_out h]; rfl, A, Only.refl _ _⟩
theorem shU_set (hn : n < 72) : (tabV 72 (shU view n)).setIfInBounds n (.bool (NV view n).isSome) = tabV 72 (shU view (n + 1)) := by
  rw [tabV_set]
  refine tabV_congr 72 (fun j hj => ?_)
  unfold shU
  by_cases e : j = n
  · rw [if_pos e, if_pos (by omega), e]
  · rw [if_neg e]
    by_cases c : j < n
    · rw [if_pos c, if_pos (by omega)]
    · rw [if_neg c, if_neg (by omega)]
theorem shP_set (hn : n < 72) : (tabV 72 (shP view n)).setIfInBounds n (.string ((NV view n).getD emptyB)) = tabV 72 (shP view (n + 1)) := by
  rw [tabV_set]
  refine tabV_congr 72 (fun j hj => ?_)
  unfold shP
  by_cases e : j = n
  · rw [if_pos e, if_pos (by omega), e]
  · rw [if_neg e]
    by_cases c : j < n
    · rw [if_pos c, if_pos (by omega)]
    · rw [if_neg c, if_neg (by omega)]
theorem ShAt.setU (h : ShAt w s ub pb op view n m) (hn : n < 72) (h1 : s ≠ ub) (h2 : pb ≠ ub) : ShAt (w.setCell ⟨ub, n, none⟩ (.bool (NV view n).isSome)) s ub pb op view (n + 1) m := by
  have u := h.u.setCell n (.bool (NV view n).isSome)
  rw [shU_set hn] at u
  exact ⟨h.s.keep (only1 (p := ub) n _) h1, u, h.p.keep (only1 (p := ub) n _) h2⟩
theorem ShAt.setP (h : ShAt w s ub pb op view m n) (hn : n < 72) (h1 : s ≠ pb) (h2 : ub ≠ pb) : ShAt (w.setCell ⟨pb, n, none⟩ (.string ((NV view n).getD emptyB))) s ub pb op view m (n + 1) := by
  have u := h.p.setCell n (.string ((NV view n).getD emptyB))
  rw [shP_set hn] at u
  exact ⟨h.s.keep (only1 (p := pb) n _) h1, h.u.keep (only1 (p := pb) n _) h2, u⟩
theorem Tryz.infoBlk : (Tryz.prog.info? 89).map (fun i => (i.zero, i.size, i.bytes)) = some (some (.string ⟨#[]⟩), 1, 16) := by kernel_rfl
theorem run_make_u72 (view : List ByteArray) (w : World) : (Instr.makeSlice 62 (.int .i64 72) (.int .i64 72)).run Tryz.prog w = .ok (.slice (some ⟨w.heap.size, 0, none⟩) 72 72) (w.alloc (.cells (tabV 72 (shU view 0)) 4)) := by
  obtain ⟨i, hi, hz, hs, hb⟩ := info_parts Tryz.infoBoolG
  have := run_make (P := Tryz.prog) w 62 4 i _ Tryz.underlying62 hi hz .i64 .i64 (72 : Int) (72 : Int) (by omega) (by omega) (by rw [hb]; omega) (by omega)
  rw [this]
  simp [hs, Value.cells, madeCells_oneO]
  rfl
theorem run_make_p72 (view : List ByteArray) (w : World) : (Instr.makeSlice 86 (.int .i64 72) (.int .i64 72)).run Tryz.prog w = .ok (.slice (some ⟨w.heap.size, 0, none⟩) 72 72) (w.alloc (.cells (tabV 72 (shP view 0)) 89)) := by
  obtain ⟨i, hi, hz, hs, hb⟩ := info_parts Tryz.infoBlk
  have := run_make (P := Tryz.prog) w 86 89 i _ Tryz.underlying86 hi hz .i64 .i64 (72 : Int) (72 : Int) (by omega) (by omega) (by rw [hb]; omega) (by omega)
  rw [this]
  simp [hs, Value.cells, madeCells_oneO]
  rfl
set_option maxRecDepth 100000 in
set_option maxHeartbeats 4000000 in
theorem look_any (A : FA q w op view) : Calls Tryz.prog 21 #[gbV q.d q.p] w fun e w' => ∃ s ub pb, e = .returned (.pointer (some ⟨s, 0, none⟩)) ∧ ShAt w' s ub pb op view 72 72 ∧ w.heap.size ≤ s ∧ w.heap.size ≤ ub ∧ w.heap.size ≤ pb ∧ FA q w' op view ∧ Only q.S w w' := by
  have mu := hide (run_make_u72 view)
  have mp := hide (run_make_p72 view)
  have hu := unhide mu
  have hp := unhide mp
  unfold gbV
  go_enter Tryz.func21, Tryz.ntmps21
  go_upto_region 4 with fail
  have B4 : Has ((((w.alloc (.cells #[.pointer (some ⟨q.d, 0, none⟩), .pointer (some ⟨q.p, 0, none⟩)] 31)).alloc (.cells #[.bool false, .slice (some ⟨w.heap.size + 1 + 1, 0, none⟩) 72 72, .slice (some ⟨w.heap.size + 1 + 1 + 1, 0, none⟩) 72 72] 88)).alloc (.cells (tabV 72 (shU view 0)) 4)).alloc (.cells (tabV 72 (shP view 0)) 89)) w.heap.size #[.pointer (some ⟨q.d, 0, none⟩), .pointer (some ⟨q.p, 0, none⟩)] 31 := (((Has.new _ _ _).alloc _).alloc _).alloc _
  have S4 : ShAt ((((w.alloc (.cells #[.pointer (some ⟨q.d, 0, none⟩), .pointer (some ⟨q.p, 0, none⟩)] 31)).alloc (.cells #[.bool false, .slice (some ⟨w.heap.size + 1 + 1, 0, none⟩) 72 72, .slice (some ⟨w.heap.size + 1 + 1 + 1, 0, none⟩) 72 72] 88)).alloc (.cells (tabV 72 (shU view 0)) 4)).alloc (.cells (tabV 72 (shP view 0)) 89)) (w.heap.size + 1) (w.heap.size + 1 + 1) (w.heap.size + 1 + 1 + 1) false view 0 0 :=
    ⟨((Has.new' _ _ _ _ (by simp)).alloc _).alloc _, (Has.new' _ _ _ _ (by simp)).alloc _, Has.new' _ _ _ _ (by simp)⟩
  have o4 : Only (fun _ => False) w ((((w.alloc (.cells #[.pointer (some ⟨q.d, 0, none⟩), .pointer (some ⟨q.p, 0, none⟩)] 31)).alloc (.cells #[.bool false, .slice (some ⟨w.heap.size + 1 + 1, 0, none⟩) 72 72, .slice (some ⟨w.heap.size + 1 + 1 + 1, 0, none⟩) 72 72] 88)).alloc (.cells (tabV 72 (shU view 0)) 4)).alloc (.cells (tabV 72 (shP view 0)) 89)) := ((((Only.refl _ w).alloc _).alloc _).alloc _).alloc _
  generalize (((w.alloc (.cells #[.pointer (some ⟨q.d, 0, none⟩), .pointer (some ⟨q.p, 0, none⟩)] 31)).alloc (.cells #[.bool false, .slice (some ⟨w.heap.size + 1 + 1, 0, none⟩) 72 72, .slice (some ⟨w.heap.size + 1 + 1 + 1, 0, none⟩) 72 72] 88)).alloc (.cells (tabV 72 (shU view 0)) 4)).alloc (.cells (tabV 72 (shP view 0)) 89) = w4 at *
  clear hu hp mu mp
  have A4 := A.quiet o4
  have C1 := hide (pintxn_any A4.pg)
  have c1 := B4.cell 1
  have s0 := S4.s.cell 0
  have f0 := S4.s.free 0
  simp at c1 s0
  have S5 : ShAt (w4.setCell ⟨w.heap.size + 1, 0, none⟩ (.bool op)) (w.heap.size + 1) (w.heap.size + 1 + 1) (w.heap.size + 1 + 1 + 1) op view 0 0 := ⟨by simpa using S4.s.setCell 0 (.bool op), S4.u.keep (only1 (p := w.heap.size + 1) 0 (.bool op)) (by omega), S4.p.keep (only1 (p := w.heap.size + 1) 0 (.bool op)) (by omega)⟩
  have o5 : Only (fun k => k = w.heap.size + 1) w4 (w4.setCell ⟨w.heap.size + 1, 0, none⟩ (.bool op)) := only1 _ _
  have B5 := hide (B4.keep o5 (by omega))
  have A5 := hide (A4.loc A (by omega) o5)
  have O5 := hide ((o4.up.qn o5 (by omega) : Only q.S w _))
  have S5 := hide S5
  clear A4 B4 S4 o4 o5
  go_wp2_with fail
  refine (unhide C1).mono ?_
  rintro e w' ⟨rfl, rfl⟩
  go_upto_region 6 with fail
  generalize w4.setCell ⟨w.heap.size + 1, 0, none⟩ (.bool op) = w5 at *
  clear c1 s0 f0 C1
  go_loopw [4] (fun nv wr => ∃ n : Nat, nv = .int .i64 n ∧ n ≤ 72 ∧ ShAt wr (w.heap.size + 1) (w.heap.size + 1 + 1) (w.heap.size + 1 + 1 + 1) op view n n ∧ Has wr w.heap.size #[.pointer (some ⟨q.d, 0, none⟩), .pointer (some ⟨q.p, 0, none⟩)] 31 ∧ FA q wr op view ∧ Only q.S w wr) (fun nv _ => 72 - (intOf nv).toNat)
  case atStart => exact ⟨0, rfl, by omega, unhide S5, unhide B5, unhide A5, unhide O5⟩
  case round =>
    clear S5 B5 A5 O5
    obtain ⟨n, rfl, hn, Sn, Bn, An, On⟩ := hrel
    by_cases h72 : n < 72
    · have a1 : decide ((n : Int) < 72) = true := decide_eq_true (by omega)
      have a2 : (n : Int) < 72 := by omega
      have nS0 := A.nS (Nat.le_refl _)
      have nS1 := A.nS (g := w.heap.size + 1) (by omega)
      have nS2 := A.nS (g := w.heap.size + 1 + 1) (by omega)
      have nS3 := A.nS (g := w.heap.size + 1 + 1 + 1) (by omega)
      have C2 := qused_any (An.quiet (Only.refl (fun _ => False) _).drew) n
      have c1 := Bn.cell 1
      have s1 := Sn.s.cell 1
      simp at c1 s1
      have u1 : ∃ x, wr.cell? ⟨w.heap.size + 1 + 1, n, none⟩ = some (.bool x) := ⟨_, by rw [Sn.u.cell, tabV_get _ _ _ h72]; rfl⟩
      obtain ⟨ux, u1⟩ := u1
      have uf := Sn.u.free n
      have HS := hide (And.intro (Sn.quiet (Only.refl (fun _ => False) _).drew) (And.intro (Bn.keep (Only.refl (fun _ => False) _).drew (fun h => h)) On.drew))
      clear Sn Bn An On
      generalize hb : (NV view n).isSome = bb at *
      have C2 := hide C2
      go_upto_region 8 with fail
      go_cut [] (fun wx => ShAt wx (w.heap.size + 1) (w.heap.size + 1 + 1) (w.heap.size + 1 + 1 + 1) op view (n + 1) n ∧ Has wx w.heap.size #[.pointer (some ⟨q.d, 0, none⟩), .pointer (some ⟨q.p, 0, none⟩)] 31 ∧ FA q wx op view ∧ Only q.S w wx)
      case first =>
        go_region_with (first | (go_at_call 52; refine (unhide C2).mono ?_; rintro e w6 ⟨rfl, A6, o6⟩; have S6 := (unhide HS).1.keep o6 nS1 nS2 nS3; have B6 := (unhide HS).2.1.keep o6 nS0; have t1 := S6.s.cell 1; have d1 := B6.cell 1; simp at t1 d1; have tu0 : ∃ y, w6.cell? ⟨w.heap.size + 1 + 1, n, none⟩ = some (.bool y) := ⟨_, by (rw [S6.u.cell, tabV_get _ _ _ h72]; rfl)⟩; obtain ⟨uy, tu⟩ := tu0; have tf := S6.u.free n; have GG := hide (And.intro S6 (And.intro B6 (And.intro A6 o6))); clear S6 B6 A6 o6))
        all_goals
          go_wp2_with fail
          go_meet
          obtain ⟨S6, B6, A6, o6⟩ := unhide GG
          have o7 : Only (fun k => k = w.heap.size + 1 + 1) w6 (w6.setCell ⟨w.heap.size + 1 + 1, n, none⟩ (.bool bb)) := only1 _ _
          have S7 := S6.setU h72 (by omega) (by omega)
          rw [hb] at S7
          exact ⟨S7, B6.keep o7 (by omega), A6.loc A (by omega) o7, ((unhide HS).2.2.qt o6).qn o7 (by omega)⟩
      case rest =>
      obtain ⟨Sn, Bn, An, On⟩ := hcut
      clear HS s1 c1 u1 uf C2 hb
      have C2 := qgetN_any (An.quiet (Only.refl (fun _ => False) _).drew) n
      have c1 := Bn.cell 1
      have s1 := Sn.s.cell 2
      simp at c1 s1
      have u1 : ∃ x, wc.cell? ⟨w.heap.size + 1 + 1 + 1, n, none⟩ = some (.string x) := ⟨_, by rw [Sn.p.cell, tabV_get _ _ _ h72]; rfl⟩
      obtain ⟨ux, u1⟩ := u1
      have uf := Sn.p.free n
      have HS := hide (And.intro (Sn.quiet (Only.refl (fun _ => False) _).drew) (And.intro (Bn.keep (Only.refl (fun _ => False) _).drew (fun h => h)) On.drew))
      clear Sn Bn An On
      generalize hb : (NV view n).getD emptyB = bb at *
      have C2 := hide C2
      go_upto_region 9 with fail
      go_region_with (first | (go_at_call 53; refine (unhide C2).mono ?_; rintro e w6 ⟨cc, rfl, A6, o6⟩; have S6 := (unhide HS).1.keep o6 nS1 nS2 nS3; have B6 := (unhide HS).2.1.keep o6 nS0; have t1 := S6.s.cell 2; have d1 := B6.cell 1; simp at t1 d1; have tu0 : ∃ y, w6.cell? ⟨w.heap.size + 1 + 1 + 1, n, none⟩ = some (.string y) := ⟨_, by (rw [S6.p.cell, tabV_get _ _ _ h72]; rfl)⟩; obtain ⟨uy, tu⟩ := tu0; have tf := S6.p.free n; have GG := hide (And.intro S6 (And.intro B6 (And.intro A6 o6))); clear S6 B6 A6 o6))
      all_goals
        have RR := hide (show ShAt (w6.setCell ⟨w.heap.size + 1 + 1 + 1, n, none⟩ (.string bb)) (w.heap.size + 1) (w.heap.size + 1 + 1) (w.heap.size + 1 + 1 + 1) op view (n + 1) (n + 1) ∧ Has (w6.setCell ⟨w.heap.size + 1 + 1 + 1, n, none⟩ (.string bb)) w.heap.size #[.pointer (some ⟨q.d, 0, none⟩), .pointer (some ⟨q.p, 0, none⟩)] 31 ∧ FA q (w6.setCell ⟨w.heap.size + 1 + 1 + 1, n, none⟩ (.string bb)) op view ∧ Only q.S w (w6.setCell ⟨w.heap.size + 1 + 1 + 1, n, none⟩ (.string bb)) by
          obtain ⟨S6, B6, A6, o6⟩ := unhide GG
          have o7 : Only (fun k => k = w.heap.size + 1 + 1 + 1) w6 (w6.setCell ⟨w.heap.size + 1 + 1 + 1, n, none⟩ (.string bb)) := only1 _ _
          have S7 := S6.setP h72 (by omega) (by omega)
          rw [hb] at S7
          exact ⟨S7, B6.keep o7 (by omega), A6.loc A (by omega) o7, ((unhide HS).2.2.qt o6).qn o7 (by omega)⟩)
        clear HS s1 c1 u1 uf C2 hb GG
        go_wp2_with fail
        go_roundw
        case rel => exact ⟨n + 1, by go_num, by omega, (unhide RR).1, (unhide RR).2.1, (unhide RR).2.2.1, (unhide RR).2.2.2⟩
        case measure => simp [intOf]; omega
    · obtain rfl : n = 72 := by omega
      have a1 : decide (((72 : Nat) : Int) < 72) = false := decide_eq_false (by omega)
      have GG := hide (And.intro Sn (And.intro An On))
      clear Sn Bn An On
      go_wp2_with fail
      go_ret
      exact ⟨_, _, _, rfl, (unhide GG).1, by omega, by omega, by omega, (unhide GG).2.1, (unhide GG).2.2⟩
set_option maxRecDepth 100000 in
set_option maxHeartbeats 4000000 in
theorem sameShot_any {s2 ub2 pb2 : Nat} (X : ShAt w s ub pb op view 72 72) (Y : ShAt w s2 ub2 pb2 op view 72 72) : Calls Tryz.prog 23 #[.pointer (some ⟨s, 0, none⟩), .pointer (some ⟨s2, 0, none⟩)] w fun e w' => e = .returned (.bool true) ∧ Only (fun _ => False) w w' := by
  have x0 := X.s.cell 0
  have y0 := Y.s.cell 0
  simp at x0 y0
  have bo : (op != op) = false := by simp
  have HX := hide (And.intro X Y)
  clear X Y
  go_enter Tryz.func23, Tryz.ntmps23
  go_upto_region 1 with fail
  go_quiet (fail)
  clear x0 y0 bo
  go_upto_region 4 with fail
  go_loopw [5] (fun nv wr => ∃ n : Nat, nv = .int .i64 n ∧ n ≤ 72 ∧ Only (fun _ => False) w wr) (fun nv _ => 72 - (intOf nv).toNat)
  case atStart => exact ⟨0, rfl, by omega, onlyQ _ _⟩
  case round =>
    obtain ⟨n, rfl, hn, oR⟩ := hrel
    by_cases h72 : n < 72
    · have a1 : decide ((n : Int) < 72) = true := decide_eq_true (by omega)
      have a2 : (n : Int) < 72 := by omega
      have X := (unhide HX).1.quiet oR
      have Y := (unhide HX).2.quiet oR
      have x1 := X.s.cell 1
      have y1 := Y.s.cell 1
      have x2 := X.s.cell 2
      have y2 := Y.s.cell 2
      simp at x1 y1 x2 y2
      have xu := X.u.cell n
      have yu := Y.u.cell n
      have xp := X.p.cell n
      have yp := Y.p.cell n
      rw [tabV_get _ _ _ h72] at xu yu xp yp
      unfold shU at xu yu
      unfold shP at xp yp
      rw [if_pos h72] at xu yu xp yp
      generalize (NV view n).isSome = bu at *
      generalize (NV view n).getD emptyB = bp at *
      have e1 : (bu != bu) = false := by simp
      have e2 : (bp.toList != bp.toList) = false := by simp
      have e3 : (bp.toList == bp.toList) = true := by simp
      have OR := hide oR
      clear X Y oR
      go_upto_region 6 with fail
      go_quiet (fail)
      go_upto_region 8 with fail
      go_quiet (fail)
      go_wp2_with fail
      go_roundw
      case rel => exact ⟨n + 1, by go_num, by omega, (unhide OR).trans (onlyQ _ _) (fun _ _ h => h)⟩
      case measure => simp [intOf]; omega
    · obtain rfl : n = 72 := by omega
      have a1 : decide (((72 : Nat) : Int) < 72) = false := decide_eq_false (by omega)
      have OR := hide oR
      clear oR
      go_wp2_with fail
      go_ret
      exact ⟨rfl, unhide OR⟩
end
end Go.Proofs.Qxb6500410aGreat
