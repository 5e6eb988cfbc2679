/-
  OWN WORK. TXN, Keeps: Under (written by tools/gen_xk7.py).
-/
import Derived.Test.Qxb6500414aGreatXK6
namespace Go.Proofs.Qxb6500414aGreat
open Go.RowKit Go.PlainAid
set_option linter.unusedSimpArgs false
set_option linter.unusedVariables false
/-- The place of the row under a key. -/
def UnR (rows : List (List Vl)) (pk : Nat) (key : Vl) (z : Int) : Prop := (z = -1 ∧ ∀ r ∈ rows, r[pk]? ≠ some key) ∨ ∃ (i : Nat) (r : List Vl), z = i ∧ rows[i]? = some r ∧ r[pk]? = some key
section
variable {lo : Nat} {w w' : World} {k k2 : Nat} {M N : Mu} {s t : Nat} {T : Tb}
set_option maxRecDepth 100000 in
set_option maxHeartbeats 2000000 in
theorem xlunder_any {v : Value} {rows : List (List Vl)} (R : RdR w v rows) (pk : Nat) (key : Vl) (hl : rows.length ≤ 1000) (hr : ∀ r ∈ rows, pk < r.length ∧ r.length ≤ 1000) : Calls Tryz.prog 171 #[v, .int .i64 (pk : Int), vlA key] w fun e w' => ∃ z, e = .returned (.int .i64 z) ∧ UnR rows pk key z ∧ Only (fun _ => False) w w' := by
  obtain ⟨a, cap, rfl, _⟩ := id R
  obtain ⟨n, hn⟩ : ∃ n, rows.length = n := ⟨_, rfl⟩
  rw [hn] at hl R ⊢
  have oB : Only (fun _ => False) w (w.alloc (.cells #[.bool key.str, .int .i64 key.i, .string key.s] 106)) := (Only.refl _ w).alloc _
  have HN := hide (Has.new w #[.bool key.str, .int .i64 key.i, .string key.s] 106)
  have HH := hide (And.intro R (And.intro oB (And.intro hn hr)))
  unfold vlA
  clear R oB hn hr
  go_enter Tryz.func171, Tryz.ntmps171
  go_upto_region 2 with fail
  generalize w.alloc (.cells #[.bool key.str, .int .i64 key.i, .string key.s] 106) = w0 at *
  generalize hkb : w.heap.size = kb at *
  clear hkb
  go_loopw [7] (fun iv wr => ∃ i : Nat, iv = .int .i64 i ∧ i ≤ n ∧ (∀ j r, j < i → rows[j]? = some r → r[pk]? ≠ some key) ∧ Only (fun _ => False) w0 wr) (fun iv _ => n + 1 - (intOf iv).toNat)
  case atStart => exact ⟨0, rfl, by omega, fun j r hj => by omega, Only.refl _ _⟩
  case round =>
    obtain ⟨i, rfl, hi, hne, oW⟩ := hrel
    have HNE := hide hne
    have oT := (unhide HH).2.1.trans oW (fun _ _ e => e)
    clear hne
    by_cases hin : i < n
    · have a1 : decide ((i : Int) < (n : Int)) = true := decide_eq_true (by omega)
      have i3 : (i : Int) < (n : Int) := by omega
      obtain ⟨r, hri⟩ := getE (l := rows) (i := i) (by rw [(unhide HH).2.2.1]; exact hin)
      obtain ⟨hpk, hrl⟩ := (unhide HH).2.2.2 r (List.mem_of_getElem? hri)
      obtain ⟨y, hy⟩ := getE (l := r) (i := pk) hpk
      obtain ⟨a', cap', f1, f2⟩ := (unhide HH).1.quiet oT
      simp only [Value.slice.injEq] at f1
      obtain ⟨g, uv, hg, cu, O⟩ := f2 i r hri
      obtain rfl := f1.1.trans hg
      clear f1 f2 hg
      obtain ⟨ra, rc, rfl⟩ := O.shape
      obtain ⟨g1, rfl, e0, e1, e2⟩ := O.at_ hy
      obtain ⟨rn, hrn⟩ : ∃ rn, r.length = rn := ⟨_, rfl⟩
      rw [hrn] at cu hpk hrl
      have pI : (pk : Int) < (rn : Int) := by omega
      have N := (unhide HN).keep oW (fun e => e)
      have k0 : wr.cell? ⟨kb, 0, none⟩ = some (.bool key.str) := N.cell 0
      have k1 : wr.cell? ⟨kb, 1, none⟩ = some (.int .i64 key.i) := N.cell 1
      have k2 : wr.cell? ⟨kb, 2, none⟩ = some (.string key.s) := N.cell 2
      have CS := jsameValue_any y key wr.drew
      obtain ⟨bq, hbq⟩ : ∃ b, decide (y = key) = b := ⟨_, rfl⟩
      rw [hbq] at CS
      unfold vlA at CS
      have CS := hide CS
      have HR := hide (And.intro hri (And.intro hy (And.intro hbq oT)))
      clear hri hy hbq oT O hrn N
      go_upto_region 4 with fail
      go_cut [22] from 14 to 22 (fun zv wx => zv = .bool bq ∧ Only (fun _ => False) wr wx)
      case first =>
        refine wp_region_held_drew (S := (fun w' => w'.cell? ⟨g, i, none⟩ = some (.slice (some ⟨g1, 0, none⟩) rn rc) ∧ w'.cell? ⟨g1, pk * 3, none⟩ = some (.bool y.str) ∧ w'.cell? ⟨g1, pk * 3 + 1, none⟩ = some (.int .i64 y.i) ∧ w'.cell? ⟨g1, pk * 3 + 2, none⟩ = some (.string y.s) ∧ w'.cell? ⟨kb, 0, none⟩ = some (.bool key.str) ∧ w'.cell? ⟨kb, 1, none⟩ = some (.int .i64 key.i) ∧ w'.cell? ⟨kb, 2, none⟩ = some (.string key.s))) (by kernel_rfl) ⟨cu, e0, e1, e2, k0, k1, k2⟩ (fun hH0 => ?_)
        refine takeH 0 14 (v := ?vu1) rfl rfl (by kernel_rfl) (by kernel_rfl) (by kernel_rfl) (fun _ _ _ h => h) (Or.inl ⟨by rfl, ?hu1⟩) hH0 ?ru1
        case hu1 => (intro w hSw; clear hSw; go_simp; (try with_reducible rfl))
        case ru1 =>
        try simp only [Act.put, List.setIfInBounds_toArray, List.set_cons_zero, List.set_cons_succ]
        refine takeH 1 15 (v := ?vu2) rfl rfl (by kernel_rfl) (by kernel_rfl) (by kernel_rfl) (fun _ _ _ h => h) (Or.inl ⟨by rfl, ?hu2⟩) hH0 ?ru2
        case hu2 => (intro w hSw; clear hSw; go_simp; (try with_reducible rfl))
        case ru2 =>
        try simp only [Act.put, List.setIfInBounds_toArray, List.set_cons_zero, List.set_cons_succ]
        refine takeH 2 16 (v := ?vu3) rfl rfl (by kernel_rfl) (by kernel_rfl) (by kernel_rfl) (fun _ _ _ h => h) (Or.inl ⟨by rfl, ?hu3⟩) hH0 ?ru3
        case hu3 => (intro w hSw; clear hSw; go_simp; (try with_reducible rfl))
        case ru3 =>
        try simp only [Act.put, List.setIfInBounds_toArray, List.set_cons_zero, List.set_cons_succ]
        refine takeH 3 17 (v := ?vu4) rfl rfl (by kernel_rfl) (by kernel_rfl) (by kernel_rfl) (fun _ _ _ h => h) (Or.inl ⟨by rfl, ?hu4⟩) hH0 ?ru4
        case hu4 => (intro w hSw; obtain ⟨s0, s1, s2, s3, s4, s5, s6⟩ := hSw; go_simp; (try with_reducible rfl))
        case ru4 =>
        try simp only [Act.put, List.setIfInBounds_toArray, List.set_cons_zero, List.set_cons_succ]
        refine takeH 4 18 (v := ?vu5) rfl rfl (by kernel_rfl) (by kernel_rfl) (by kernel_rfl) (fun _ _ _ h => h) (Or.inl ⟨by rfl, ?hu5⟩) hH0 ?ru5
        case hu5 => (intro w hSw; clear hSw; go_simp; (try with_reducible rfl))
        case ru5 =>
        try simp only [Act.put, List.setIfInBounds_toArray, List.set_cons_zero, List.set_cons_succ]
        refine takeH 5 19 (v := ?vu6) rfl rfl (by kernel_rfl) (by kernel_rfl) (by kernel_rfl) (fun _ _ _ h => h) (Or.inl ⟨by rfl, ?hu6⟩) hH0 ?ru6
        case hu6 => (intro w hSw; clear hSw; go_simp; (try with_reducible rfl))
        case ru6 =>
        try simp only [Act.put, List.setIfInBounds_toArray, List.set_cons_zero, List.set_cons_succ]
        refine takeH 6 20 (v := ?vu7) rfl rfl (by kernel_rfl) (by kernel_rfl) (by kernel_rfl) (fun _ _ _ h => h) (Or.inl ⟨by rfl, ?hu7⟩) hH0 ?ru7
        case hu7 => (intro w hSw; obtain ⟨s0, s1, s2, s3, s4, s5, s6⟩ := hSw; go_simp; (try with_reducible rfl))
        case ru7 =>
        try simp only [Act.put, List.setIfInBounds_toArray, List.set_cons_zero, List.set_cons_succ]
        refine takeH 7 21 (v := ?vu8) rfl rfl (by kernel_rfl) (by kernel_rfl) (by kernel_rfl) (fun _ _ _ h => h) (Or.inl ⟨by rfl, ?hu8⟩) hH0 ?ru8
        case hu8 => (intro w hSw; obtain ⟨s0, s1, s2, s3, s4, s5, s6⟩ := hSw; go_simp; (try with_reducible rfl))
        case ru8 =>
        try simp only [Act.put, List.setIfInBounds_toArray, List.set_cons_zero, List.set_cons_succ]
        refine callH 8 (by kernel_rfl) rfl 22 rfl rfl 197 Tryz.func197 (by kernel_rfl) (by kernel_rfl) #[.tmp 20, .tmp 21] #[106, 106] rfl #[.agg #[.bool y.str, .int .i64 y.i, .string y.s], .agg #[.bool key.str, .int .i64 key.i, .string key.s]] (by simp [Act.eval]) (R := fun v w' => v = .bool bq ∧ Only (fun _ => False) wr.drew w') ((unhide CS).mono (by rintro en w' ⟨rfl, o⟩; exact ⟨_, rfl, rfl, o⟩)) ?ku
        case ku =>
        rintro _ w6 ⟨rfl, o6⟩
        have S6 : w6.cell? ⟨g, i, none⟩ = some (.slice (some ⟨g1, 0, none⟩) rn rc) ∧ w6.cell? ⟨g1, pk * 3, none⟩ = some (.bool y.str) ∧ w6.cell? ⟨g1, pk * 3 + 1, none⟩ = some (.int .i64 y.i) ∧ w6.cell? ⟨g1, pk * 3 + 2, none⟩ = some (.string y.s) ∧ w6.cell? ⟨kb, 0, none⟩ = some (.bool key.str) ∧ w6.cell? ⟨kb, 1, none⟩ = some (.int .i64 key.i) ∧ w6.cell? ⟨kb, 2, none⟩ = some (.string key.s) := ⟨o6.cellF hH0.1, o6.cellF hH0.2.1, o6.cellF hH0.2.2.1, o6.cellF hH0.2.2.2.1, o6.cellF hH0.2.2.2.2.1, o6.cellF hH0.2.2.2.2.2.1, o6.cellF hH0.2.2.2.2.2.2⟩
        refine ⟨S6, ?_⟩
        try simp only [Act.put, List.setIfInBounds_toArray, List.set_cons_zero, List.set_cons_succ]
        refine wpAnyH_done (by kernel_rfl) ?_ _
        have oD : Only (fun _ => False) wr w6 := (Only.refl _ wr).drew.trans o6 (fun _ _ e => e)
        have HF := hide oD
        clear hH0 S6 o6 oD
        go_wp2_with fail
        go_meet
        exact ⟨rfl, unhide HF⟩
      case rest =>
      obtain ⟨rfl, oC⟩ := hcut
      generalize wc = w5 at *
      have HO := hide (And.intro (oW.trans oC (fun _ _ e => e)) ((unhide HR).2.2.2.trans oC (fun _ _ e => e)))
      clear oW oC cu e0 e1 e2 k0 k1 k2 CS
      cases bq with
      | true =>
        have FF := hide (show UnR rows pk key i from .inr ⟨i, r, rfl, (unhide HR).1, by rw [(unhide HR).2.1, of_decide_eq_true (unhide HR).2.2.1]⟩)
        go_wp2_with fail
        go_ret
        exact ⟨_, rfl, unhide FF, (unhide HO).2⟩
      | false =>
        have HN2 := hide (show ∀ j r, j < i + 1 → rows[j]? = some r → r[pk]? ≠ some key from fun j r' hj hr' => by
          by_cases e : j = i
          · subst e
            rw [(unhide HR).1] at hr'
            cases hr'
            rw [(unhide HR).2.1]
            intro c
            exact of_decide_eq_false (unhide HR).2.2.1 (Option.some.inj c)
          · exact unhide HNE j r' (by omega) hr')
        go_wp2_with fail
        go_roundw
        case rel => exact ⟨i + 1, by go_num, by omega, unhide HN2, (unhide HO).1⟩
        case measure => simp [intOf]; omega
    · have a1 : decide ((i : Int) < (n : Int)) = false := decide_eq_false (by omega)
      obtain rfl : i = n := by omega
      have FF := hide (And.intro (show UnR rows pk key (-1) from .inl ⟨rfl, fun r hr => by
        obtain ⟨j, hj⟩ := List.getElem?_of_mem hr
        exact unhide HNE j r (by rw [← (unhide HH).2.2.1]; exact (List.getElem?_eq_some_iff.mp hj).1) hj⟩) oT)
      clear oW oT
      go_wp2_with fail
      go_ret
      exact ⟨_, rfl, (unhide FF).1, (unhide FF).2⟩
end
end Go.Proofs.Qxb6500414aGreat
