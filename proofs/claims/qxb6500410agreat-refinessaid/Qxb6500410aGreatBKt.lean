/-
  OWN WORK. THE B-TREE LAW: Turn.
-/
import Derived.Test.Qxb6500410aGreatBKp
import Derived.Test.Qxb6500410aGreatBKb
import Derived.Test.Qxb6500410aGreatBKc
import Derived.Test.Qxb6500410aGreatBKs
import Derived.Deep.RegionHeld3
namespace Go.Proofs.Qxb6500410aGreat
open Go.RowKit Go.PlainAid
set_option linter.unusedSimpArgs false
set_option linter.unusedVariables false

theorem tne {a b : Int} (h : a ≠ b) : (a == b) = false := by simpa using h
section
variable {lo : Nat} {w w' : World} {kb : Nat} {q : Gnd} {op : Bool} {S C P : Vu} {n b v : Gho} {N : Int}
theorem KP.from {w0 : World} (h : KP lo w0 kb q P v N w') (ho : Only (fun _ => False) w w0) : KP lo w kb q P v N w' := by
  obtain ⟨q', op', S', C', n', b', J, hq, o⟩ := h
  exact ⟨q', op', S', C', n', b', J, hq, (ho.mono (fun _ _ h => h.elim)).trans o (fun _ _ h => h)⟩
theorem KJ.qS (J : KJ lo w kb q op S C P n b v N) (o : Only q.S w w') : Only (fun k => lo ≤ k) w w' := J.k.oS (Only.refl _ _) o
set_option maxRecDepth 100000 in
set_option maxHeartbeats 4000000 in
theorem turn1 (J : KJ lo w kb q op S C P n b v N) (a bb cc : Int) (s t : ByteArray) : Calls Tryz.prog 17 #[.pointer (some ⟨kb, 0, none⟩), .agg #[.int .i64 1, .int .i64 a, .int .i64 bb, .int .i64 cc, .string s, .string t]] w fun e w' => e = .returned (.bool true) ∧ KP lo w kb q P v N w' := by
  have o1 : Only (fun _ => False) w (w.alloc (.cells #[.int .i64 1, .int .i64 a, .int .i64 bb, .int .i64 cc, .string s, .string t] 42)) := (Only.refl _ w).alloc _
  have J1 := J.quiet o1
  have C1 := hide (begun_any J1)
  clear J J1
  go_enter Tryz.func17, Tryz.ntmps17
  go_wp2_with fail
  refine (unhide C1).mono ?_
  rintro e w2 ⟨rfl, K⟩
  have HP := hide (K.from o1)
  clear K
  go_wp2_with fail
  go_ret
  exact ⟨by rfl, unhide HP⟩
set_option maxRecDepth 100000 in
set_option maxHeartbeats 4000000 in
theorem turn2 (J : KJ lo w kb q op S C P n b v N) (hrc : q.recs.length ≤ 100) (a bb cc : Int) (s t : ByteArray) : Calls Tryz.prog 17 #[.pointer (some ⟨kb, 0, none⟩), .agg #[.int .i64 2, .int .i64 a, .int .i64 bb, .int .i64 cc, .string s, .string t]] w fun e w' => e = .returned (.bool true) ∧ KP lo w kb q P v N w' := by
  have o1 : Only (fun _ => False) w (w.alloc (.cells #[.int .i64 2, .int .i64 a, .int .i64 bb, .int .i64 cc, .string s, .string t] 42)) := (Only.refl _ w).alloc _
  have J1 := J.quiet o1
  have C1 := hide (committed_any J1 hrc)
  clear J J1
  go_enter Tryz.func17, Tryz.ntmps17
  go_wp2_with fail
  refine (unhide C1).mono ?_
  rintro e w2 ⟨rfl, K⟩
  have HP := hide (K.from o1)
  clear K
  go_wp2_with fail
  go_ret
  exact ⟨by rfl, unhide HP⟩
set_option maxRecDepth 100000 in
set_option maxHeartbeats 4000000 in
theorem turn3 (J : KJ lo w kb q op S C P n b v N) (a bb cc : Int) (s t : ByteArray) : Calls Tryz.prog 17 #[.pointer (some ⟨kb, 0, none⟩), .agg #[.int .i64 3, .int .i64 a, .int .i64 bb, .int .i64 cc, .string s, .string t]] w fun e w' => e = .returned (.bool true) ∧ KP lo w kb q P v N w' := by
  have o1 : Only (fun _ => False) w (w.alloc (.cells #[.int .i64 3, .int .i64 a, .int .i64 bb, .int .i64 cc, .string s, .string t] 42)) := (Only.refl _ w).alloc _
  have J1 := J.quiet o1
  have C1 := hide (aborted_any J1)
  clear J J1
  go_enter Tryz.func17, Tryz.ntmps17
  go_wp2_with fail
  refine (unhide C1).mono ?_
  rintro e w2 ⟨rfl, K⟩
  have HP := hide (K.from o1)
  clear K
  go_wp2_with fail
  go_ret
  exact ⟨by rfl, unhide HP⟩
set_option maxRecDepth 100000 in
set_option maxHeartbeats 4000000 in
theorem turn4 (J : KJ lo w kb q op S C P n b v N) (a bb cc : Int) (s t : ByteArray) : Calls Tryz.prog 17 #[.pointer (some ⟨kb, 0, none⟩), .agg #[.int .i64 4, .int .i64 a, .int .i64 bb, .int .i64 cc, .string s, .string t]] w fun e w' => e = .returned (.bool true) ∧ KP lo w kb q P v N w' := by
  have o1 : Only (fun _ => False) w (w.alloc (.cells #[.int .i64 4, .int .i64 a, .int .i64 bb, .int .i64 cc, .string s, .string t] 42)) := (Only.refl _ w).alloc _
  have J1 := J.quiet o1
  have C1 := hide (created_any J1)
  clear J J1
  go_enter Tryz.func17, Tryz.ntmps17
  go_wp2_with fail
  refine (unhide C1).mono ?_
  rintro e w2 ⟨rfl, K⟩
  have HP := hide (K.from o1)
  clear K
  go_wp2_with fail
  go_ret
  exact ⟨by rfl, unhide HP⟩
set_option maxRecDepth 100000 in
set_option maxHeartbeats 4000000 in
theorem turn5 (J : KJ lo w kb q op S C P n b v N) (a bb cc : Int) (s t : ByteArray) : Calls Tryz.prog 17 #[.pointer (some ⟨kb, 0, none⟩), .agg #[.int .i64 5, .int .i64 a, .int .i64 bb, .int .i64 cc, .string s, .string t]] w fun e w' => e = .returned (.bool true) ∧ KP lo w kb q P v N w' := by
  have o1 : Only (fun _ => False) w (w.alloc (.cells #[.int .i64 5, .int .i64 a, .int .i64 bb, .int .i64 cc, .string s, .string t] 42)) := (Only.refl _ w).alloc _
  have J1 := J.quiet o1
  have C1 := hide (dropped_any J1 a)
  clear J J1
  go_enter Tryz.func17, Tryz.ntmps17
  go_wp2_with fail
  refine (unhide C1).mono ?_
  rintro e w2 ⟨rfl, K⟩
  have HP := hide (K.from o1)
  clear K
  go_wp2_with fail
  go_ret
  exact ⟨by rfl, unhide HP⟩
set_option maxRecDepth 100000 in
set_option maxHeartbeats 4000000 in
theorem turn6 (J : KJ lo w kb q op S C P n b v N) (a bb cc : Int) (s t : ByteArray) : Calls Tryz.prog 17 #[.pointer (some ⟨kb, 0, none⟩), .agg #[.int .i64 6, .int .i64 a, .int .i64 bb, .int .i64 cc, .string s, .string t]] w fun e w' => e = .returned (.bool true) ∧ KP lo w kb q P v N w' := by
  have o1 : Only (fun _ => False) w (w.alloc (.cells #[.int .i64 6, .int .i64 a, .int .i64 bb, .int .i64 cc, .string s, .string t] 42)) := (Only.refl _ w).alloc _
  have J1 := J.quiet o1
  have C1 := hide (putg_any J1 a s t)
  clear J J1
  go_enter Tryz.func17, Tryz.ntmps17
  go_wp2_with fail
  refine (unhide C1).mono ?_
  rintro e w2 ⟨rfl, K⟩
  have HP := hide (K.from o1)
  clear K
  go_wp2_with fail
  go_ret
  exact ⟨by rfl, unhide HP⟩
set_option maxRecDepth 100000 in
set_option maxHeartbeats 4000000 in
theorem turn7 (J : KJ lo w kb q op S C P n b v N) (a bb cc : Int) (s t : ByteArray) : Calls Tryz.prog 17 #[.pointer (some ⟨kb, 0, none⟩), .agg #[.int .i64 7, .int .i64 a, .int .i64 bb, .int .i64 cc, .string s, .string t]] w fun e w' => e = .returned (.bool true) ∧ KP lo w kb q P v N w' := by
  have o1 : Only (fun _ => False) w (w.alloc (.cells #[.int .i64 7, .int .i64 a, .int .i64 bb, .int .i64 cc, .string s, .string t] 42)) := (Only.refl _ w).alloc _
  have J1 := J.quiet o1
  have C1 := hide (taken_any J1 a s)
  clear J J1
  go_enter Tryz.func17, Tryz.ntmps17
  go_wp2_with fail
  refine (unhide C1).mono ?_
  rintro e w2 ⟨rfl, K⟩
  have HP := hide (K.from o1)
  clear K
  go_wp2_with fail
  go_ret
  exact ⟨by rfl, unhide HP⟩
set_option maxRecDepth 100000 in
set_option maxHeartbeats 4000000 in
theorem turn8 (J : KJ lo w kb q op S C P n b v N) (a bb cc : Int) (s t : ByteArray) : Calls Tryz.prog 17 #[.pointer (some ⟨kb, 0, none⟩), .agg #[.int .i64 8, .int .i64 a, .int .i64 bb, .int .i64 cc, .string s, .string t]] w fun e w' => e = .returned (.bool true) ∧ KP lo w kb q P v N w' := by
  have o1 : Only (fun _ => False) w (w.alloc (.cells #[.int .i64 8, .int .i64 a, .int .i64 bb, .int .i64 cc, .string s, .string t] 42)) := (Only.refl _ w).alloc _
  have J1 := J.quiet o1
  have C1 := hide (got_any J1 a s)
  clear J J1
  go_enter Tryz.func17, Tryz.ntmps17
  go_wp2_with fail
  refine (unhide C1).mono ?_
  rintro e w2 ⟨rfl, K⟩
  have HP := hide (K.from o1)
  clear K
  go_wp2_with fail
  go_ret
  exact ⟨by rfl, unhide HP⟩
set_option maxRecDepth 100000 in
set_option maxHeartbeats 4000000 in
theorem turn9 (J : KJ lo w kb q op S C P n b v N) (a bb cc : Int) (s t : ByteArray) : Calls Tryz.prog 17 #[.pointer (some ⟨kb, 0, none⟩), .agg #[.int .i64 9, .int .i64 a, .int .i64 bb, .int .i64 cc, .string s, .string t]] w fun e w' => e = .returned (.bool true) ∧ KP lo w kb q P v N w' := by
  have o1 : Only (fun _ => False) w (w.alloc (.cells #[.int .i64 9, .int .i64 a, .int .i64 bb, .int .i64 cc, .string s, .string t] 42)) := (Only.refl _ w).alloc _
  have J1 := J.quiet o1
  have C1 := hide (sought_seek J1 a s)
  clear J J1
  go_enter Tryz.func17, Tryz.ntmps17
  go_wp2_with fail
  refine (unhide C1).mono ?_
  rintro e w2 ⟨rfl, K⟩
  have HP := hide (K.from o1)
  clear K
  go_wp2_with fail
  go_ret
  exact ⟨by rfl, unhide HP⟩
set_option maxRecDepth 100000 in
set_option maxHeartbeats 4000000 in
theorem turn10 (J : KJ lo w kb q op S C P n b v N) (a bb cc : Int) (s t : ByteArray) : Calls Tryz.prog 17 #[.pointer (some ⟨kb, 0, none⟩), .agg #[.int .i64 10, .int .i64 a, .int .i64 bb, .int .i64 cc, .string s, .string t]] w fun e w' => e = .returned (.bool true) ∧ KP lo w kb q P v N w' := by
  have o1 : Only (fun _ => False) w (w.alloc (.cells #[.int .i64 10, .int .i64 a, .int .i64 bb, .int .i64 cc, .string s, .string t] 42)) := (Only.refl _ w).alloc _
  have J1 := J.quiet o1
  have C1 := hide (sought_next J1 a s)
  clear J J1
  go_enter Tryz.func17, Tryz.ntmps17
  go_wp2_with fail
  refine (unhide C1).mono ?_
  rintro e w2 ⟨rfl, K⟩
  have HP := hide (K.from o1)
  clear K
  go_wp2_with fail
  go_ret
  exact ⟨by rfl, unhide HP⟩
set_option maxRecDepth 100000 in
set_option maxHeartbeats 4000000 in
theorem turn11 (J : KJ lo w kb q op S C P n b v N) (a bb cc : Int) (s t : ByteArray) : Calls Tryz.prog 17 #[.pointer (some ⟨kb, 0, none⟩), .agg #[.int .i64 11, .int .i64 a, .int .i64 bb, .int .i64 cc, .string s, .string t]] w fun e w' => e = .returned (.bool true) ∧ KP lo w kb q P v N w' := by
  have o1 : Only (fun _ => False) w (w.alloc (.cells #[.int .i64 11, .int .i64 a, .int .i64 bb, .int .i64 cc, .string s, .string t] 42)) := (Only.refl _ w).alloc _
  have J1 := J.quiet o1
  have hob : Has (w.alloc (.cells #[.int .i64 11, .int .i64 a, .int .i64 bb, .int .i64 cc, .string s, .string t] 42)) w.heap.size #[.int .i64 11, .int .i64 a, .int .i64 bb, .int .i64 cc, .string s, .string t] 42 := Has.new _ _ _
  have hlo := J.low
  have c2 := J1.k.c2
  have C1 := hide (vused_any (J1.fv.quiet ((Only.refl (fun _ => False) _).drew)) a)
  have qlt := J.fv.Alt
  have HJ := hide J1
  have HO1 := hide o1
  clear J J1 o1
  go_enter Tryz.func17, Tryz.ntmps17
  go_upto_region 21 with fail
  generalize hw1 : w.alloc (.cells #[.int .i64 11, .int .i64 a, .int .i64 bb, .int .i64 cc, .string s, .string t] 42) = w1 at *
  have x1 := hob.cell 1
  simp at x1
  have qS : ∀ k, q.S k → k < w.heap.size := fun k hk => qlt k (Gnd.S_A hk)
  go_cut [5] (fun z wx => z = .bool (Vz S a).isSome ∧ KJ lo wx kb q op S C P n b v N ∧ Only q.S w1 wx)
  case first =>
    go_region_held3 (fun w' => w'.cell? ⟨kb, 2, none⟩ = some (.pointer (some ⟨q.f, 0, none⟩)) ∧ w'.cell? ⟨w.heap.size, 1, none⟩ = some (.int .i64 a)) (first | exact ⟨s2, sx⟩ | exact ⟨c2, x1⟩) (first | (go_at_call 37; refine (unhide C1).mono ?_; rintro e w5 ⟨rfl, A5, ho5⟩; have J5 := hide (((unhide HJ).quiet ((Only.refl (fun _ => False) w1).drew)).forest ho5 A5); have s2 := (unhide J5).k.c2; have sx := ((hob.drew).keep ho5 (fun h => by have := qS _ h; omega)).cell 1; simp at sx))
    all_goals
      go_wp2_with fail
      go_meet
      exact ⟨rfl, unhide J5, ((Only.refl q.S w1).drew).trans ho5 (fun _ _ h => h)⟩
  case rest =>
  obtain ⟨rfl, J2, o2⟩ := hcut
  generalize hwc : wc = w2 at *
  clear hwc
  have hob2 := hob.keep o2 (fun h => by have := qS _ h; omega)
  have x2 := hob2.cell 1
  simp at x2
  have c3 := J2.k.c3
  have CH := ghas_any (GhAt.quiet J2.k.gn ((Only.refl (fun _ => False) w2).drew)) a
  rw [J2.rn.hasT] at CH
  have CH := hide CH
  have HP := hide ((J2.same ((unhide HJ).qS o2)).from (unhide HO1))
  have HP := hide (show KP lo w kb q P v N w2.drew from by
    obtain ⟨q', op', S', C', n', b', JJ, hq, o⟩ := unhide HP
    exact ⟨q', op', S', C', n', b', JJ.quiet ((Only.refl (fun _ => False) w2).drew), hq, o.drew⟩)
  have b1 : ((Vz S a).isSome == (Vz S a).isSome) = true := by simp
  clear J2 o2 hob hob2 c2 x1 C1
  go_upto_region 22 with fail
  go_region_held3 (fun w' => w'.cell? ⟨kb, 3, none⟩ = some (.pointer (some ⟨n.g, 0, none⟩)) ∧ w'.cell? ⟨w.heap.size, 1, none⟩ = some (.int .i64 a)) (exact ⟨c3, x2⟩) (first | (go_at_call 38; refine (unhide CH).mono ?_; rintro e w5 ⟨rfl, rfl⟩))
  all_goals
    go_wp2_with fail
    go_ret
    exact ⟨by first | rfl | simp, unhide HP⟩
set_option maxRecDepth 100000 in
set_option maxHeartbeats 4000000 in
theorem turn12 (J : KJ lo w kb q op S C P n b v N) (a bb cc : Int) (s t : ByteArray) : Calls Tryz.prog 17 #[.pointer (some ⟨kb, 0, none⟩), .agg #[.int .i64 12, .int .i64 a, .int .i64 bb, .int .i64 cc, .string s, .string t]] w fun e w' => e = .returned (.bool true) ∧ KP lo w kb q P v N w' := by
  have o1 : Only (fun _ => False) w (w.alloc (.cells #[.int .i64 12, .int .i64 a, .int .i64 bb, .int .i64 cc, .string s, .string t] 42)) := (Only.refl _ w).alloc _
  have J1 := J.quiet o1
  have c2 := J1.k.c2
  have c6 := J1.k.c6
  have C1 := hide (vintxn_any J1.fv)
  have HP := hide ((J1.same (Only.refl _ _)).from o1)
  clear J J1
  have b1 : (op == op) = true := by simp
  go_enter Tryz.func17, Tryz.ntmps17
  go_wp2_with fail
  refine (unhide C1).mono ?_
  rintro e w2 ⟨rfl, rfl⟩
  go_wp2_with fail
  go_ret
  exact ⟨by rfl, unhide HP⟩
set_option maxRecDepth 100000 in
set_option maxHeartbeats 4000000 in
theorem turn13 (J : KJ lo w kb q op S C P n b v N) (a bb cc : Int) (s t : ByteArray) : Calls Tryz.prog 17 #[.pointer (some ⟨kb, 0, none⟩), .agg #[.int .i64 13, .int .i64 a, .int .i64 bb, .int .i64 cc, .string s, .string t]] w fun e w' => e = .returned (.bool true) ∧ KP lo w kb q P v N w' := by
  have o1 : Only (fun _ => False) w (w.alloc (.cells #[.int .i64 13, .int .i64 a, .int .i64 bb, .int .i64 cc, .string s, .string t] 42)) := (Only.refl _ w).alloc _
  have J1 := J.quiet o1
  have c2 := J1.k.c2
  have hlen := J.rn.len
  have C1 := hide (vcount_any J1.fv)
  have HJ := hide J1
  have HO := hide o1
  clear J J1 o1
  go_enter Tryz.func17, Tryz.ntmps17
  go_wp2_with fail
  refine (unhide C1).mono ?_
  rintro e w2 ⟨rfl, A2, o2⟩
  have J2 := (unhide HJ).forest o2 A2
  have HP := hide ((J2.same ((unhide HJ).qS o2)).from (unhide HO))
  have c3 := J2.k.c3
  have g1 := GhAt.c1 J2.k.gn
  obtain ⟨ia, icap, hiv⟩ := (show GhAt w2 n.g n.tb n.iv n.T n.its from J2.k.gn).own.shape
  rw [hiv] at g1
  have b1 : (((al8 S).length : Int) == (n.its.length : Int)) = true := by simp; omega
  clear A2 o2 J2 C1 hiv
  go_wp2_with fail
  go_ret
  exact ⟨by rfl, unhide HP⟩
set_option maxRecDepth 100000 in
set_option maxHeartbeats 4000000 in
theorem turn0 (J : KJ lo w kb q op S C P n b v N) (kind a bb cc : Int) (s t : ByteArray) (hk : ¬ (1 ≤ kind ∧ kind ≤ 13)) : Calls Tryz.prog 17 #[.pointer (some ⟨kb, 0, none⟩), .agg #[.int .i64 kind, .int .i64 a, .int .i64 bb, .int .i64 cc, .string s, .string t]] w fun e w' => e = .returned (.bool true) ∧ KP lo w kb q P v N w' := by
  have o1 : Only (fun _ => False) w (w.alloc (.cells #[.int .i64 kind, .int .i64 a, .int .i64 bb, .int .i64 cc, .string s, .string t] 42)) := (Only.refl _ w).alloc _
  have J1 := J.quiet o1
  have k1 : (kind == 1) = false := tne (by omega)
  have k2 : (kind == 2) = false := tne (by omega)
  have k3 : (kind == 3) = false := tne (by omega)
  have k4 : (kind == 4) = false := tne (by omega)
  have k5 : (kind == 5) = false := tne (by omega)
  have k6 : (kind == 6) = false := tne (by omega)
  have k7 : (kind == 7) = false := tne (by omega)
  have k8 : (kind == 8) = false := tne (by omega)
  have k9 : (kind == 9) = false := tne (by omega)
  have k10 : (kind == 10) = false := tne (by omega)
  have k11 : (kind == 11) = false := tne (by omega)
  have k12 : (kind == 12) = false := tne (by omega)
  have k13 : (kind == 13) = false := tne (by omega)
  have HP := hide ((J1.same (Only.refl _ _)).from o1)
  clear J J1 o1 hk
  go_enter Tryz.func17, Tryz.ntmps17
  go_wp2_with fail
  go_ret
  exact ⟨by rfl, unhide HP⟩
theorem turn_any (J : KJ lo w kb q op S C P n b v N) (hrc : q.recs.length ≤ 100) (kind a bb cc : Int) (s t : ByteArray) : Calls Tryz.prog 17 #[.pointer (some ⟨kb, 0, none⟩), .agg #[.int .i64 kind, .int .i64 a, .int .i64 bb, .int .i64 cc, .string s, .string t]] w fun e w' => e = .returned (.bool true) ∧ KP lo w kb q P v N w' := by
  by_cases hk : 1 ≤ kind ∧ kind ≤ 13
  · have hc : kind = 1 ∨ kind = 2 ∨ kind = 3 ∨ kind = 4 ∨ kind = 5 ∨ kind = 6 ∨ kind = 7 ∨ kind = 8 ∨ kind = 9 ∨ kind = 10 ∨ kind = 11 ∨ kind = 12 ∨ kind = 13 := by omega
    rcases hc with rfl | rfl | rfl | rfl | rfl | rfl | rfl | rfl | rfl | rfl | rfl | rfl | rfl
    · exact turn1 J a bb cc s t
    · exact turn2 J hrc a bb cc s t
    · exact turn3 J a bb cc s t
    · exact turn4 J a bb cc s t
    · exact turn5 J a bb cc s t
    · exact turn6 J a bb cc s t
    · exact turn7 J a bb cc s t
    · exact turn8 J a bb cc s t
    · exact turn9 J a bb cc s t
    · exact turn10 J a bb cc s t
    · exact turn11 J a bb cc s t
    · exact turn12 J a bb cc s t
    · exact turn13 J a bb cc s t
  · exact turn0 J kind a bb cc s t hk
end
end Go.Proofs.Qxb6500410aGreat
