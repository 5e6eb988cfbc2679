/-
  OWN WORK. THE B-TREE LAW: both sides side by side; the ops that turn them. (tools/gen_zpl.py writes it.)
-/
import Derived.Test.Qxb6500410aGreatZWlk
import Derived.Test.Qxb6500410aGreatZCom
import Derived.Test.Qxb6500410aGreatBKw0
namespace Go.Proofs.Qxb6500410aGreat
open Go.RowKit Go.PlainAid
set_option linter.unusedSimpArgs false
set_option linter.unusedVariables false

structure ZJ (lo : Nat) (w : World) (q : Gnd) (z : Nat) (op : Bool) (S T U : Vu) (hist : Option Vu) (H : Nat → Prop) : Prop where
  fv : FV q w op S
  za : ZAt w z S T U hist op H
  cf : ComF q.com T
  sc : op = false → S = T
  sp : ∀ k, H k → ¬ q.A k ∧ lo ≤ k
  ql : ∀ k, q.A k → lo ≤ k
  hh : (hist = none ∧ U = T) ∨ hist = some T
/-- What a step leaves. -/
structure ZSt (lo : Nat) (w : World) (q : Gnd) (z : Nat) (U : Vu) (H : Nat → Prop) (cm : Bool) (q' : Gnd) (op' : Bool) (S' T' : Vu) (hist' : Option Vu) (H' : Nat → Prop) (w' : World) : Prop where
  j : ZJ lo w' q' z op' S' T' U hist' H'
  qs : QS q q'
  cm : cm = false → q' = q
  nA : ∀ k, q'.A k → q.A k ∨ w.heap.size ≤ k
  nH : ∀ k, H' k → H k ∨ w.heap.size ≤ k
  o : Only (fun k => q.A k ∨ H k) w w'
def ZR (lo : Nat) (w : World) (q : Gnd) (z : Nat) (U : Vu) (H : Nat → Prop) (cm : Bool) (e : Ending) (w' : World) : Prop :=
  e = .returned (.bool true) ∧ ∃ q' op' S' T' hist' H', ZSt lo w q z U H cm q' op' S' T' hist' H' w'
section
variable {lo : Nat} {w w1 w2 : World} {q : Gnd} {z : Nat} {op : Bool} {S T U : Vu} {hist : Option Vu} {H : Nat → Prop}
theorem ZJ.sepS (J : ZJ lo w q z op S T U hist H) : ∀ k, H k → ¬ q.S k := fun k hk c => (J.sp k hk).1 (Gnd.S_A c)
theorem ZJ.quiet (J : ZJ lo w q z op S T U hist H) (ho : Only (fun _ => False) w w1) : ZJ lo w1 q z op S T U hist H := ⟨J.fv.quiet ho, J.za.quiet ho, J.cf, J.sc, J.sp, J.ql, J.hh⟩
theorem FV.keepA {B : Nat → Prop} (A : FV q w op S) (ho : Only B w w1) (hB : ∀ k, q.A k → ¬ B k) : FV q w1 op S :=
  A.keep ho (fun k hk => hB k (.inl hk)) (fun k hk => hB k (.inr (.inl hk))) (hB _ (.inr (.inr (.inl rfl)))) (hB _ (.inr (.inr (.inr rfl))))
theorem ZJ.keep {B : Nat → Prop} (J : ZJ lo w q z op S T U hist H) (ho : Only B w w1) (hA : ∀ k, q.A k → ¬ B k) (hH : ∀ k, H k → ¬ B k) : ZJ lo w1 q z op S T U hist H :=
  ⟨J.fv.keepA ho hA, J.za.keep ho hH, J.cf, J.sc, J.sp, J.ql, J.hh⟩
/-- A look at the forest leaves both. -/
theorem ZJ.look (J : ZJ lo w q z op S T U hist H) (A : FV q w1 op S) (ho : Only q.S w w1) : ZJ lo w1 q z op S T U hist H := ⟨A, J.za.keep ho J.sepS, J.cf, J.sc, J.sp, J.ql, J.hh⟩
theorem ZJ.pure (J : ZJ lo w q z op S T U hist H) (A : FV q w1 op S) (ho : Only q.S w w1) : ZSt lo w q z U H false q op S T hist H w1 :=
  ⟨J.look A ho, .inl rfl, fun _ => rfl, fun k hk => .inl hk, fun k hk => .inl hk, ho.mono (fun k _ h => .inl (Gnd.S_A h))⟩
theorem ZSt.wide {cm : Bool} {q' : Gnd} {op' : Bool} {S' T' : Vu} {hist' : Option Vu} {H' : Nat → Prop} (h : ZSt lo w q z U H false q' op' S' T' hist' H' w1) : ZSt lo w q z U H cm q' op' S' T' hist' H' w1 := ⟨h.j, h.qs, fun _ => h.cm rfl, h.nA, h.nH, h.o⟩
/-- Both have turned; nothing was committed. -/
theorem ZJ.step (J : ZJ lo w q z op S T U hist H) {op1 : Bool} {S1 : Vu} (A1 : FV q w1 op1 S1) (o1 : Only q.S w w1) (Z2 : ZAt w2 z S1 T U hist op1 (Ext H w1 w2)) (o2 : Only H w1 w2) (hsc : op1 = false → S1 = T) : ZSt lo w q z U H false q op1 S1 T hist (Ext H w1 w2) w2 := by
  have s1 := o1.size
  have al := J.fv.Alt
  have hlo : lo ≤ w.heap.size := by
    have := J.za.nem
    have := (J.sp z J.za.hm).2
    omega
  refine ⟨⟨A1.keepA o2 (fun k hk hh => (J.sp k hh).1 hk), Z2, J.cf, hsc, fun k hk => ?_, J.ql, J.hh⟩, .inl rfl, fun _ => rfl, fun k hk => .inl hk, fun k hk => ?_, ?_⟩
  · rcases hk with hk | hk
    · exact J.sp k hk
    · exact ⟨fun c => by have := al k c; omega, by omega⟩
  · rcases hk with hk | hk
    · exact .inl hk
    · exact .inr (by omega)
  · exact (o1.mono (fun k _ h => .inl (Gnd.S_A h))).trans o2 (fun k _ h => .inr h)
theorem ZAt.ext {Z : Nat} {o : Bool} (h : ZAt w2 Z S T U hist o H) (hs : ∀ k, H k → k < w1.heap.size) (hle : w1.heap.size ≤ w2.heap.size) : ZAt w2 Z S T U hist o (Ext H w1 w2) := h.mono (fun k hk => .inl hk) (Ext.in hs hle)
theorem nee (c : Int) : (c == c) = true := by simp
theorem sameGet_jt (J : ZJ lo w q z op S T U hist H) (h : Int) (k : ByteArray) : Calls Tryz.prog 65 #[.pointer (some ⟨q.f, 0, none⟩), .pointer (some ⟨z, 0, none⟩), .int .i64 h, .string k] w (ZR lo w q z U H false) := by
  obtain ⟨vw, A⟩ := J.fv.vw
  refine (sameGetB_any A J.za J.sepS h k).mono ?_
  rintro e w1 ⟨b, rfl, hb, A1, o1⟩
  obtain rfl := hb.mpr (sameG_eq rfl)
  exact ⟨rfl, _, _, _, _, _, _, J.pure A1.fv o1⟩
theorem sameSeek_jt (J : ZJ lo w q z op S T U hist H) (h : Int) (k : ByteArray) : Calls Tryz.prog 66 #[.pointer (some ⟨q.f, 0, none⟩), .pointer (some ⟨z, 0, none⟩), .int .i64 h, .string k] w (ZR lo w q z U H false) := by
  obtain ⟨vw, A⟩ := J.fv.vw
  refine (sameSeekB_any A J.za J.sepS h k).mono ?_
  rintro e w1 ⟨b, rfl, hb, A1, o1⟩
  obtain rfl := hb.mpr (sameS_eq rfl)
  exact ⟨rfl, _, _, _, _, _, _, J.pure A1.fv o1⟩
theorem sameNext_jt (J : ZJ lo w q z op S T U hist H) (h : Int) (k : ByteArray) : Calls Tryz.prog 67 #[.pointer (some ⟨q.f, 0, none⟩), .pointer (some ⟨z, 0, none⟩), .int .i64 h, .string k] w (ZR lo w q z U H false) := by
  obtain ⟨vw, A⟩ := J.fv.vw
  refine (sameNextB_any A J.za J.sepS h k).mono ?_
  rintro e w1 ⟨b, rfl, hb, A1, o1⟩
  obtain rfl := hb.mpr (sameS_eq rfl)
  exact ⟨rfl, _, _, _, _, _, _, J.pure A1.fv o1⟩
theorem sameUsed_jt (J : ZJ lo w q z op S T U hist H) (h : Int) : Calls Tryz.prog 68 #[.pointer (some ⟨q.f, 0, none⟩), .pointer (some ⟨z, 0, none⟩), .int .i64 h] w (ZR lo w q z U H false) := by
  obtain ⟨vw, A⟩ := J.fv.vw
  refine (sameUsedB_any A J.za J.sepS h).mono ?_
  rintro e w1 ⟨rfl, A1, o1⟩
  exact ⟨by simp, _, _, _, _, _, _, J.pure A1.fv o1⟩
theorem sameCount_jt (J : ZJ lo w q z op S T U hist H) : Calls Tryz.prog 70 #[.pointer (some ⟨q.f, 0, none⟩), .pointer (some ⟨z, 0, none⟩)] w (ZR lo w q z U H false) := by
  obtain ⟨vw, A⟩ := J.fv.vw
  refine (sameCountB_any A J.za J.sepS).mono ?_
  rintro e w1 ⟨rfl, A1, o1⟩
  exact ⟨by simp, _, _, _, _, _, _, J.pure A1.fv o1⟩
theorem sameInTxn_jt (J : ZJ lo w q z op S T U hist H) : Calls Tryz.prog 69 #[.pointer (some ⟨q.f, 0, none⟩), .pointer (some ⟨z, 0, none⟩)] w (ZR lo w q z U H false) := by
  obtain ⟨vw, A⟩ := J.fv.vw
  refine (sameInTxnB_any A J.za).mono ?_
  rintro e w1 ⟨rfl, rfl⟩
  exact ⟨by simp, _, _, _, _, _, _, J.pure J.fv (Only.refl _ _)⟩
set_option maxRecDepth 100000 in
theorem sameBegin_openP (J : ZJ lo w q z true S T U hist H) : Calls Tryz.prog 58 #[.pointer (some ⟨q.f, 0, none⟩), .pointer (some ⟨z, 0, none⟩)] w (ZR lo w q z U H false) := by
  have C1 := hide (vbegin_open J.fv)
  go_enter Tryz.func58, Tryz.ntmps58
  go_wp2_with fail
  refine (unhide C1).mono ?_
  rintro e w1 ⟨rfl, rfl⟩
  have C2 := hide (zbegin_open J.za)
  go_wp2_with fail
  refine (unhide C2).mono ?_
  rintro e w2 ⟨rfl, rfl⟩
  go_wp2_with fail
  go_ret
  exact ⟨rfl, _, _, _, _, _, _, J.pure J.fv (Only.refl _ _)⟩
set_option maxRecDepth 100000 in
theorem sameAbort_shutP (J : ZJ lo w q z false S T U hist H) : Calls Tryz.prog 60 #[.pointer (some ⟨q.f, 0, none⟩), .pointer (some ⟨z, 0, none⟩)] w (ZR lo w q z U H false) := by
  have C1 := hide (vabort_shut J.fv)
  go_enter Tryz.func60, Tryz.ntmps60
  go_wp2_with fail
  refine (unhide C1).mono ?_
  rintro e w1 ⟨rfl, rfl⟩
  have C2 := hide (zabort_shut J.za)
  go_wp2_with fail
  refine (unhide C2).mono ?_
  rintro e w2 ⟨rfl, rfl⟩
  go_wp2_with fail
  go_ret
  exact ⟨rfl, _, _, _, _, _, _, J.pure J.fv (Only.refl _ _)⟩
set_option maxRecDepth 100000 in
theorem sameCommit_shutP (J : ZJ lo w q z false S T U hist H) : Calls Tryz.prog 59 #[.pointer (some ⟨q.f, 0, none⟩), .pointer (some ⟨z, 0, none⟩)] w (ZR lo w q z U H false) := by
  have C1 := hide (vcommit_shut J.fv)
  go_enter Tryz.func59, Tryz.ntmps59
  go_wp2_with fail
  refine (unhide C1).mono ?_
  rintro e w1 ⟨rfl, rfl⟩
  have C2 := hide (zcommit_shut J.za)
  go_wp2_with fail
  refine (unhide C2).mono ?_
  rintro e w2 ⟨rfl, rfl⟩
  go_wp2_with fail
  go_ret
  exact ⟨rfl, _, _, _, _, _, _, J.pure J.fv (Only.refl _ _)⟩
set_option maxRecDepth 100000 in
theorem sameCreate_shutP (J : ZJ lo w q z false S T U hist H) : Calls Tryz.prog 61 #[.pointer (some ⟨q.f, 0, none⟩), .pointer (some ⟨z, 0, none⟩)] w (ZR lo w q z U H false) := by
  have C1 := hide (vcreate_shut J.fv)
  go_enter Tryz.func61, Tryz.ntmps61
  go_wp2_with fail
  refine (unhide C1).mono ?_
  rintro e w1 ⟨rfl, A1, o1⟩
  have JJ := hide (J.look A1 o1)
  have OO := hide o1
  clear A1 o1
  have C2 := hide (zcreate_shut (unhide JJ).za)
  go_wp2_with fail
  refine (unhide C2).mono ?_
  rintro e w2 ⟨rfl, rfl⟩
  go_wp2_with fail
  go_ret
  exact ⟨rfl, _, _, _, _, _, _, J.pure (unhide JJ).fv (unhide OO)⟩
set_option maxRecDepth 100000 in
theorem sameDrop_shutP (J : ZJ lo w q z false S T U hist H) (h : Int) : Calls Tryz.prog 62 #[.pointer (some ⟨q.f, 0, none⟩), .pointer (some ⟨z, 0, none⟩), .int .i64 h] w (ZR lo w q z U H false) := by
  have C1 := hide (vdrop_shut J.fv h)
  go_enter Tryz.func62, Tryz.ntmps62
  go_wp2_with fail
  refine (unhide C1).mono ?_
  rintro e w1 ⟨rfl, A1, o1⟩
  have JJ := hide (J.look A1 o1)
  have OO := hide o1
  clear A1 o1
  have C2 := hide (zdrop_shut (unhide JJ).za h)
  go_wp2_with fail
  refine (unhide C2).mono ?_
  rintro e w2 ⟨rfl, rfl⟩
  go_wp2_with fail
  go_ret
  exact ⟨rfl, _, _, _, _, _, _, J.pure (unhide JJ).fv (unhide OO)⟩
set_option maxRecDepth 100000 in
theorem sameInsert_shutP (J : ZJ lo w q z false S T U hist H) (h : Int) (k v : ByteArray) : Calls Tryz.prog 63 #[.pointer (some ⟨q.f, 0, none⟩), .pointer (some ⟨z, 0, none⟩), .int .i64 h, .string k, .string v] w (ZR lo w q z U H false) := by
  have C1 := hide (vinsert_shut J.fv h k v)
  go_enter Tryz.func63, Tryz.ntmps63
  go_wp2_with fail
  refine (unhide C1).mono ?_
  rintro e w1 ⟨rfl, A1, o1⟩
  have JJ := hide (J.look A1 o1)
  have OO := hide o1
  clear A1 o1
  have C2 := hide (zinsert_shut (unhide JJ).za h k v)
  go_wp2_with fail
  refine (unhide C2).mono ?_
  rintro e w2 ⟨rfl, rfl⟩
  go_wp2_with fail
  go_ret
  exact ⟨rfl, _, _, _, _, _, _, J.pure (unhide JJ).fv (unhide OO)⟩
set_option maxRecDepth 100000 in
theorem sameDelete_shutP (J : ZJ lo w q z false S T U hist H) (h : Int) (k : ByteArray) : Calls Tryz.prog 64 #[.pointer (some ⟨q.f, 0, none⟩), .pointer (some ⟨z, 0, none⟩), .int .i64 h, .string k] w (ZR lo w q z U H false) := by
  have C1 := hide (vdelete_shut J.fv h k)
  go_enter Tryz.func64, Tryz.ntmps64
  go_wp2_with fail
  refine (unhide C1).mono ?_
  rintro e w1 ⟨rfl, A1, o1⟩
  have JJ := hide (J.look A1 o1)
  have OO := hide o1
  clear A1 o1
  have C2 := hide (zdelete_shut (unhide JJ).za h k)
  go_wp2_with fail
  refine (unhide C2).mono ?_
  rintro e w2 ⟨rfl, rfl⟩
  go_wp2_with fail
  go_ret
  exact ⟨rfl, _, _, _, _, _, _, J.pure (unhide JJ).fv (unhide OO)⟩
set_option maxRecDepth 100000 in
theorem sameBegin_shutP (J : ZJ lo w q z false S T U hist H) : Calls Tryz.prog 58 #[.pointer (some ⟨q.f, 0, none⟩), .pointer (some ⟨z, 0, none⟩)] w (ZR lo w q z U H false) := by
  have C1 := vbegin_shut J.fv
  have CZ := fun (w1 : World) (Z1 : ZAt w1 z S T U hist false H) => zbegin_shut Z1
  have C1 := hide C1
  have CZ := hide CZ
  go_enter Tryz.func58, Tryz.ntmps58
  go_wp2_with fail
  refine (unhide C1).mono ?_
  rintro e w1 ⟨rfl, A1, o1⟩
  have Z1 := J.za.keep o1 J.sepS
  have C2 := hide (unhide CZ _ Z1)
  have JJ := hide (And.intro Z1 (And.intro A1 o1))
  clear A1 o1 Z1
  go_wp2_with fail
  refine (unhide C2).mono ?_
  rintro e w2 ⟨rfl, Z2, o2⟩
  have FF := hide (J.step (unhide JJ).2.1 (unhide JJ).2.2 (Z2.ext ((unhide JJ).1.inn) o2.size) (o2.mono (fun k _ e => by rw [e]; exact (unhide JJ).1.hm)) (fun e => by cases e))
  clear Z2 o2
  go_wp2_with fail
  go_ret
  exact ⟨by first | rfl | simp, _, _, _, _, _, _, unhide FF⟩
set_option maxRecDepth 100000 in
theorem sameAbort_openP (J : ZJ lo w q z true S T U hist H) : Calls Tryz.prog 60 #[.pointer (some ⟨q.f, 0, none⟩), .pointer (some ⟨z, 0, none⟩)] w (ZR lo w q z U H false) := by
  have C1 := vabort_open J.fv J.cf
  have CZ := fun (w1 : World) (Z1 : ZAt w1 z S T U hist true H) => zabort_open Z1
  have C1 := hide C1
  have CZ := hide CZ
  go_enter Tryz.func60, Tryz.ntmps60
  go_wp2_with fail
  refine (unhide C1).mono ?_
  rintro e w1 ⟨rfl, A1, o1⟩
  have Z1 := J.za.keep o1 J.sepS
  have C2 := hide (unhide CZ _ Z1)
  have JJ := hide (And.intro Z1 (And.intro A1 o1))
  clear A1 o1 Z1
  go_wp2_with fail
  refine (unhide C2).mono ?_
  rintro e w2 ⟨rfl, Z2, o2⟩
  have FF := hide (J.step (unhide JJ).2.1 (unhide JJ).2.2 Z2 (o2.mono (fun k _ e => by rw [e]; exact (unhide JJ).1.hm)) (fun _ => rfl))
  clear Z2 o2
  go_wp2_with fail
  go_ret
  exact ⟨by first | rfl | simp, _, _, _, _, _, _, unhide FF⟩
set_option maxRecDepth 100000 in
theorem sameCreate_openP (J : ZJ lo w q z true S T U hist H) : Calls Tryz.prog 61 #[.pointer (some ⟨q.f, 0, none⟩), .pointer (some ⟨z, 0, none⟩)] w (ZR lo w q z U H false) := by
  have C1 := vcreate_open J.fv
  have CZ := fun (w1 : World) (Z1 : ZAt w1 z S T U hist true H) => zcreate_open Z1
  generalize (newS S).2.1 = cA at *
  generalize (newS S).2.2 = cB at *
  generalize (newS S).1 = S1 at *
  have C1 := hide C1
  have CZ := hide CZ
  have necA := nee cA
  have necB := nee cB
  go_enter Tryz.func61, Tryz.ntmps61
  go_wp2_with fail
  refine (unhide C1).mono ?_
  rintro e w1 ⟨rfl, A1, o1⟩
  have Z1 := J.za.keep o1 J.sepS
  have C2 := hide (unhide CZ _ Z1)
  have JJ := hide (And.intro Z1 (And.intro A1 o1))
  clear A1 o1 Z1
  go_wp2_with fail
  refine (unhide C2).mono ?_
  rintro e w2 ⟨rfl, Z2, o2⟩
  have FF := hide (J.step (unhide JJ).2.1 (unhide JJ).2.2 (Z2.ext ((unhide JJ).1.inn) o2.size) (o2.mono (fun k _ e => by rw [e]; exact (unhide JJ).1.hm)) (fun e => by cases e))
  clear Z2 o2
  go_wp2_with fail
  go_ret
  exact ⟨by first | rfl | simp, _, _, _, _, _, _, unhide FF⟩
set_option maxRecDepth 100000 in
theorem sameDrop_openP (J : ZJ lo w q z true S T U hist H) (h : Int) : Calls Tryz.prog 62 #[.pointer (some ⟨q.f, 0, none⟩), .pointer (some ⟨z, 0, none⟩), .int .i64 h] w (ZR lo w q z U H false) := by
  have C1 := vdrop_open J.fv h
  have CZ := fun (w1 : World) (Z1 : ZAt w1 z S T U hist true H) => zdrop_open Z1 h
  generalize (dropS S h).2 = cA at *
  generalize (dropS S h).1 = S1 at *
  have C1 := hide C1
  have CZ := hide CZ
  have necA := nee cA
  go_enter Tryz.func62, Tryz.ntmps62
  go_wp2_with fail
  refine (unhide C1).mono ?_
  rintro e w1 ⟨rfl, A1, o1⟩
  have Z1 := J.za.keep o1 J.sepS
  have C2 := hide (unhide CZ _ Z1)
  have JJ := hide (And.intro Z1 (And.intro A1 o1))
  clear A1 o1 Z1
  go_wp2_with fail
  refine (unhide C2).mono ?_
  rintro e w2 ⟨rfl, Z2, o2⟩
  have FF := hide (J.step (unhide JJ).2.1 (unhide JJ).2.2 (Z2.ext ((unhide JJ).1.inn) o2.size) (o2.mono (fun k _ e => by rw [e]; exact (unhide JJ).1.hm)) (fun e => by cases e))
  clear Z2 o2
  go_wp2_with fail
  go_ret
  exact ⟨by first | rfl | simp, _, _, _, _, _, _, unhide FF⟩
set_option maxRecDepth 100000 in
theorem sameInsert_openP (J : ZJ lo w q z true S T U hist H) (h : Int) (k v : ByteArray) : Calls Tryz.prog 63 #[.pointer (some ⟨q.f, 0, none⟩), .pointer (some ⟨z, 0, none⟩), .int .i64 h, .string k, .string v] w (ZR lo w q z U H false) := by
  have C1 := vinsert_open J.fv h k v
  have CZ := fun (w1 : World) (Z1 : ZAt w1 z S T U hist true H) => zinsert_open Z1 h k v
  generalize (putS S h k v).2 = cA at *
  generalize (putS S h k v).1 = S1 at *
  have C1 := hide C1
  have CZ := hide CZ
  have necA := nee cA
  go_enter Tryz.func63, Tryz.ntmps63
  go_wp2_with fail
  refine (unhide C1).mono ?_
  rintro e w1 ⟨rfl, A1, o1⟩
  have Z1 := J.za.keep o1 J.sepS
  have C2 := hide (unhide CZ _ Z1)
  have JJ := hide (And.intro Z1 (And.intro A1 o1))
  clear A1 o1 Z1
  go_wp2_with fail
  refine (unhide C2).mono ?_
  rintro e w2 ⟨rfl, Z2, o2⟩
  have FF := hide (J.step (unhide JJ).2.1 (unhide JJ).2.2 Z2 o2 (fun e => by cases e))
  clear Z2 o2
  go_wp2_with fail
  go_ret
  exact ⟨by first | rfl | simp, _, _, _, _, _, _, unhide FF⟩
set_option maxRecDepth 100000 in
theorem sameDelete_openP (J : ZJ lo w q z true S T U hist H) (h : Int) (k : ByteArray) : Calls Tryz.prog 64 #[.pointer (some ⟨q.f, 0, none⟩), .pointer (some ⟨z, 0, none⟩), .int .i64 h, .string k] w (ZR lo w q z U H false) := by
  have C1 := vdelete_open J.fv h k
  have CZ := fun (w1 : World) (Z1 : ZAt w1 z S T U hist true H) => zdelete_open Z1 h k
  generalize (delS S h k).2 = cA at *
  generalize (delS S h k).1 = S1 at *
  have C1 := hide C1
  have CZ := hide CZ
  have necA := nee cA
  go_enter Tryz.func64, Tryz.ntmps64
  go_wp2_with fail
  refine (unhide C1).mono ?_
  rintro e w1 ⟨rfl, A1, o1⟩
  have Z1 := J.za.keep o1 J.sepS
  have C2 := hide (unhide CZ _ Z1)
  have JJ := hide (And.intro Z1 (And.intro A1 o1))
  clear A1 o1 Z1
  go_wp2_with fail
  refine (unhide C2).mono ?_
  rintro e w2 ⟨rfl, Z2, o2⟩
  have FF := hide (J.step (unhide JJ).2.1 (unhide JJ).2.2 Z2 o2 (fun e => by cases e))
  clear Z2 o2
  go_wp2_with fail
  go_ret
  exact ⟨by first | rfl | simp, _, _, _, _, _, _, unhide FF⟩
set_option maxRecDepth 100000 in
theorem sameCommit_openP (J : ZJ lo w q z true S T U none H) (hrc : q.recs.length ≤ 100) : Calls Tryz.prog 59 #[.pointer (some ⟨q.f, 0, none⟩), .pointer (some ⟨z, 0, none⟩)] w (ZR lo w q z U H true) := by
  have C1 := hide (vcommit_open J.fv hrc)
  go_enter Tryz.func59, Tryz.ntmps59
  go_wp2_with fail
  refine (unhide C1).mono ?_
  rintro e w1 ⟨rfl, rs, com, A1, cf, CI, o1⟩
  have oA : Only q.A w w1 := o1.mono (fun k _ h => by
    rcases h with h | h | h
    · exact .inl h
    · exact .inr (.inl h)
    · exact .inr (.inr (.inl h)))
  have Z1 := J.za.keep oA (fun k hk => (J.sp k hk).1)
  have C2 := hide (zcommit_open Z1)
  have JJ := hide (And.intro Z1 (And.intro A1 (And.intro cf (And.intro CI oA))))
  clear A1 o1 Z1 oA cf CI C1
  go_wp2_with fail
  refine (unhide C2).mono ?_
  rintro e w2 ⟨rfl, Z2, o2⟩
  have FF := hide (show ZSt lo w q z U H true (q.done rs com w w1) false S S (some S) (Ext H w1 w2) w2 by
    obtain ⟨Z1, A1, cf, CI, oA⟩ := unhide JJ
    have s1 := oA.size
    have al := J.fv.Alt
    have hlo : lo ≤ w.heap.size := by
      have := J.za.nem
      have := (J.sp z J.za.hm).2
      omega
    have nA : ∀ k, (q.done rs com w w1).A k → q.A k ∨ (w.heap.size ≤ k ∧ k < w1.heap.size) := fun k hk => by
      rcases hk with h | h | h | h
      · rcases h with h | h
        · exact .inl (.inl h)
        · exact .inr h
      · exact .inl (.inr (.inl h))
      · exact .inl (.inr (.inr (.inl h)))
      · exact .inl (.inr (.inr (.inr h)))
    have hzA : ∀ k, (q.done rs com w w1).A k → k ≠ z := fun k hk e => by
      rcases nA k hk with c | c
      · exact (J.sp z J.za.hm).1 (by rw [← e]; exact c)
      · have := J.za.nem; omega
    refine ⟨⟨A1.keepA o2 hzA, Z2, cf, fun _ => rfl, fun k hk => ?_, fun k hk => ?_, .inr rfl⟩, .inr ⟨rs, com, Ext q.F w w1, rfl, CI⟩, (fun e => by cases e), fun k hk => ?_, fun k hk => ?_, ?_⟩
    · rcases hk with hk | hk
      · refine ⟨fun c => ?_, (J.sp k hk).2⟩
        rcases nA k c with c | c
        · exact (J.sp k hk).1 c
        · have := J.za.inn k hk; omega
      · refine ⟨fun c => ?_, by omega⟩
        rcases nA k c with c | c
        · have := al k c; omega
        · omega
    · rcases nA k hk with c | c
      · exact J.ql k c
      · omega
    · rcases nA k hk with c | c
      · exact .inl c
      · exact .inr c.1
    · rcases hk with hk | hk
      · exact .inl hk
      · exact .inr (by omega)
    · exact (oA.mono (fun k _ h => .inl h)).trans o2 (fun k _ e => .inr (by rw [e]; exact J.za.hm)))
  clear Z2 o2
  go_wp2_with fail
  go_ret
  exact ⟨rfl, _, _, _, _, _, _, unhide FF⟩
end
end Go.Proofs.Qxb6500410aGreat
