/-
  OWN WORK. THE B-TREE LAW: what is looked at on both sides: SameInTxn, SameCount, SameUsed, SameGet, SameSeek, SameNext.
-/
import Derived.Test.Qxb6500410aGreatZCom
import Derived.Test.Qxb6500410aGreatBOr2
import Derived.Test.Qxb6500410aGreatZVw
namespace Go.Proofs.Qxb6500410aGreat
open Go.RowKit Go.PlainAid
set_option linter.unusedSimpArgs false
set_option linter.unusedVariables false

def gK (S : Vu) (h : Int) (k : ByteArray) : ByteArray := ((Vz S h).bind (getL k)).getD bE
def gC (S : Vu) (h : Int) (k : ByteArray) : Int := match Vz S h with
  | none => 7
  | some l => geC (getL k l)
theorem getS_eq (S : Vu) (h : Int) (k : ByteArray) : getS S h k = .tuple #[.string (gK S h k), .int .i64 (gC S h k)] := by
  unfold getS gK gC
  cases Vz S h <;> rfl
def sameG (S S' : Vu) (h : Int) (k : ByteArray) : Prop := gK S h k = gK S' h k ∧ gC S h k = gC S' h k
def sameS (S S' : Vu) (h : Int) (k : ByteArray) (past : Bool) : Prop := sA S h k past = sA S' h k past ∧ sC S h k past = sC S' h k past
theorem sameG_eq {S S' : Vu} {h : Int} {k : ByteArray} (e : Vz S h = Vz S' h) : sameG S S' h k := by unfold sameG gK gC; rw [e]; exact ⟨rfl, rfl⟩
theorem sameS_eq {S S' : Vu} {h : Int} {k : ByteArray} {past : Bool} (e : Vz S h = Vz S' h) : sameS S S' h k past := by unfold sameS sA sC; rw [e]; exact ⟨rfl, rfl⟩
section
variable {q : Gnd} {w w' : World} {op : Bool} {vw : List ByteArray} {S S' T U : Vu} {z : Nat} {hist : Option Vu} {op' : Bool} {H : Nat → Prop}
theorem sameInTxnB_any (A : FW q w op vw S) (Z : ZAt w z S' T U hist op' H) : Calls Tryz.prog 69 #[.pointer (some ⟨q.f, 0, none⟩), .pointer (some ⟨z, 0, none⟩)] w fun e w' => e = .returned (.bool (op == op')) ∧ w = w' := by
  have C1 := hide (yintxn_any A)
  have C2 := hide (zintxn_any Z)
  go_enter Tryz.func69, Tryz.ntmps69
  go_wp2_with fail
  refine (unhide C1).mono ?_
  rintro e w' ⟨rfl, rfl⟩
  go_wp2_with fail
  refine (unhide C2).mono ?_
  rintro e w' ⟨rfl, rfl⟩
  go_wp2_with fail
  go_ret
  exact ⟨rfl, rfl⟩
theorem sameCountB_any (A : FW q w op vw S) (Z : ZAt w z S' T U hist op' H) (sep : ∀ k, H k → ¬ q.S k) : Calls Tryz.prog 70 #[.pointer (some ⟨q.f, 0, none⟩), .pointer (some ⟨z, 0, none⟩)] w fun e w' => e = .returned (.bool (((al8 S).length : Int) == ((al8 S').length : Int))) ∧ FW q w' op vw S ∧ Only q.S w w' := by
  have C1 := hide (ycount_any A)
  go_enter Tryz.func70, Tryz.ntmps70
  go_wp2_with fail
  refine (unhide C1).mono ?_
  rintro e w1 ⟨rfl, A1, o1⟩
  have C2 := hide (zcount_any (Z.keep o1 sep))
  have FF := hide (And.intro A1 o1)
  clear A1 o1
  go_wp2_with fail
  refine (unhide C2).mono ?_
  rintro e w' ⟨rfl, rfl⟩
  go_wp2_with fail
  go_ret
  exact ⟨rfl, unhide FF⟩
theorem sameUsedB_any (A : FW q w op vw S) (Z : ZAt w z S' T U hist op' H) (sep : ∀ k, H k → ¬ q.S k) (h : Int) : Calls Tryz.prog 68 #[.pointer (some ⟨q.f, 0, none⟩), .pointer (some ⟨z, 0, none⟩), .int .i64 h] w fun e w' => e = .returned (.bool ((Vz S h).isSome == (Vz S' h).isSome)) ∧ FW q w' op vw S ∧ Only q.S w w' := by
  have C1 := hide (yused_any A h)
  go_enter Tryz.func68, Tryz.ntmps68
  go_wp2_with fail
  refine (unhide C1).mono ?_
  rintro e w1 ⟨rfl, A1, o1⟩
  have C2 := hide (zused_any (Z.keep o1 sep) h)
  have FF := hide (And.intro A1 o1)
  clear A1 o1
  go_wp2_with fail
  refine (unhide C2).mono ?_
  rintro e w' ⟨rfl, rfl⟩
  go_wp2_with fail
  go_ret
  exact ⟨rfl, unhide FF⟩
theorem sameGetB_any (A : FW q w op vw S) (Z : ZAt w z S' T U hist op' H) (sep : ∀ k, H k → ¬ q.S k) (h : Int) (k : ByteArray) : Calls Tryz.prog 65 #[.pointer (some ⟨q.f, 0, none⟩), .pointer (some ⟨z, 0, none⟩), .int .i64 h, .string k] w fun e w' => ∃ b, e = .returned (.bool b) ∧ (b = true ↔ sameG S S' h k) ∧ FW q w' op vw S ∧ Only q.S w w' := by
  have C1 := yget_any A h k
  rw [getS_eq] at C1
  have C1 := hide C1
  go_enter Tryz.func65, Tryz.ntmps65
  go_wp2_with fail
  refine (unhide C1).mono ?_
  rintro e w1 ⟨rfl, A1, o1⟩
  have C2 := zget_any (Z.keep o1 sep) h k
  rw [getS_eq] at C2
  have C2 := hide C2
  have FF := hide (And.intro A1 o1)
  clear A1 o1
  go_wp2_with fail
  refine (unhide C2).mono ?_
  rintro e w2 ⟨rfl, o2⟩
  have GG := hide (And.intro ((unhide FF).1.quiet o2) ((unhide FF).2.q0 o2))
  clear o2 FF
  have HD : Hid (sameG S S' h k ↔ gK S h k = gK S' h k ∧ gC S h k = gC S' h k) := hide Iff.rfl
  generalize gK S h k = a at *
  generalize gK S' h k = a' at *
  generalize gC S h k = c at *
  generalize gC S' h k = c' at *
  by_cases h1 : a = a'
  · have b1 := seq_t h1
    by_cases h2 : c = c'
    · have b2 : (c == c') = true := by simpa using h2
      have HR := hide ((unhide HD).mpr ⟨h1, h2⟩)
      clear h1 h2
      go_wp2_with fail
      go_ret
      exact ⟨_, rfl, ⟨fun _ => unhide HR, fun _ => rfl⟩, unhide GG⟩
    · have b2 : (c == c') = false := by simpa using h2
      have HR := hide (fun x => h2 ((unhide HD).mp x).2)
      clear h1 h2
      go_wp2_with fail
      go_ret
      exact ⟨_, rfl, ⟨fun x => by simp at x, fun x => absurd x (unhide HR)⟩, unhide GG⟩
  · have b1 := seq_f h1
    have HR := hide (fun x => h1 ((unhide HD).mp x).1)
    clear h1
    go_wp2_with fail
    go_ret
    exact ⟨_, rfl, ⟨fun x => by simp at x, fun x => absurd x (unhide HR)⟩, unhide GG⟩
set_option maxRecDepth 100000 in
set_option maxHeartbeats 1000000 in
theorem sameSeekB_any (A : FW q w op vw S) (Z : ZAt w z S' T U hist op' H) (sep : ∀ k, H k → ¬ q.S k) (h : Int) (k : ByteArray) : Calls Tryz.prog 66 #[.pointer (some ⟨q.f, 0, none⟩), .pointer (some ⟨z, 0, none⟩), .int .i64 h, .string k] w fun e w' => ∃ b, e = .returned (.bool b) ∧ (b = true ↔ sameS S S' h k false) ∧ FW q w' op vw S ∧ Only q.S w w' := by
  have C1 := yseek_any A h k
  rw [seekS_eq] at C1
  have C1 := hide C1
  go_enter Tryz.func66, Tryz.ntmps66
  go_wp2_with fail
  refine (unhide C1).mono ?_
  rintro e w1 ⟨rfl, A1, o1⟩
  have FF := hide (And.intro A1 o1)
  have s1 := o1.size
  have Z1 := hide (Z.keep o1 sep)
  clear A1 o1 C1
  have HD : Hid (sameS S S' h k false ↔ sA S h k false = sA S' h k false ∧ sC S h k false = sC S' h k false) := hide Iff.rfl
  generalize sA S h k false = a at *
  generalize sC S h k false = c at *
  go_upto_region 2 with (first | (refine wpList_alloc_kvd 9 rfl rfl rfl ?_; intro b w2 hB gB oB; have hB := hide hB; have oB := hide oB) | (refine wpList_store_kv rfl _ _ rfl b a rfl rfl (unhide hB) ?_; intro w3 n3 o3))
  have s2 := (unhide oB).size
  have s3 := o3.size
  have gb0 : w.heap.size ≤ b := by omega
  have F3 := hide (And.intro (((unhide FF).1.quiet (unhide oB)).loc A gb0 o3) (((unhide FF).2.q0 (unhide oB)).qn o3 gb0))
  have Z3 := ((unhide Z1).quiet (unhide oB)).keep o3 (fun x hx e => by have := Z.inn x hx; omega)
  have C2 := zseek_any Z3 h k
  rw [seekS_eq] at C2
  have C2 := hide C2
  have B3 := hide n3
  clear Z3 n3 o3 hB oB FF Z1
  go_wp2_with fail
  refine (unhide C2).mono ?_
  rintro e w4 ⟨rfl, o4⟩
  have F4 := hide (And.intro ((unhide F3).1.quiet o4) ((unhide F3).2.q0 o4))
  have B4 := hide ((unhide B3).keep o4 (fun h => h))
  have s4 := o4.size
  have blt := Has.lt (unhide B4)
  clear o4 F3 B3 C2
  generalize sA S' h k false = a' at *
  generalize sC S' h k false = c' at *
  go_upto_region 3 with (first | (refine wpList_alloc_kvd 11 rfl rfl rfl ?_; intro b2 w5 hB gB2 oB; have hB := hide hB; have oB := hide oB) | (refine wpList_store_kv rfl _ _ rfl b2 a' rfl rfl (unhide hB) ?_; intro w6 n6 o6))
  have s5 := (unhide oB).size
  have gb2 : w.heap.size ≤ b2 := by omega
  have F6 := hide (And.intro (((unhide F4).1.quiet (unhide oB)).loc A gb2 o6) (((unhide F4).2.q0 (unhide oB)).qn o6 gb2))
  have B6 := ((unhide B4).keep (unhide oB) (fun h => h)).keep o6 (fun e => by omega)
  have c0 := B6.k.1
  have c1 := B6.v.1
  have d0 := n6.k.1
  have d1 := n6.v.1
  clear n6 o6 hB oB F4 B4 B6
  by_cases h1 : a.1 = a'.1
  · have b1 := seq_t h1
    by_cases h2 : a.2 = a'.2
    · have b2 := seq_t h2
      by_cases h3 : c = c'
      · have b3 : (c == c') = true := by simpa using h3
        have HR := hide ((unhide HD).mpr ⟨Prod.ext h1 h2, h3⟩)
        clear h1 h2 h3
        go_wp2_with fail
        go_ret
        exact ⟨_, rfl, ⟨fun _ => unhide HR, fun _ => rfl⟩, unhide F6⟩
      · have b3 : (c == c') = false := by simpa using h3
        have HR := hide (fun x => h3 ((unhide HD).mp x).2)
        clear h1 h2 h3
        go_wp2_with fail
        go_ret
        exact ⟨_, rfl, ⟨fun x => by simp at x, fun x => absurd x (unhide HR)⟩, unhide F6⟩
    · have b2 := seq_f h2
      have HR := hide (fun x => h2 (by rw [((unhide HD).mp x).1]))
      clear h1 h2
      go_wp2_with fail
      go_ret
      exact ⟨_, rfl, ⟨fun x => by simp at x, fun x => absurd x (unhide HR)⟩, unhide F6⟩
  · have b1 := seq_f h1
    have HR := hide (fun x => h1 (by rw [((unhide HD).mp x).1]))
    clear h1
    go_wp2_with fail
    go_ret
    exact ⟨_, rfl, ⟨fun x => by simp at x, fun x => absurd x (unhide HR)⟩, unhide F6⟩
set_option maxRecDepth 100000 in
set_option maxHeartbeats 1000000 in
theorem sameNextB_any (A : FW q w op vw S) (Z : ZAt w z S' T U hist op' H) (sep : ∀ k, H k → ¬ q.S k) (h : Int) (k : ByteArray) : Calls Tryz.prog 67 #[.pointer (some ⟨q.f, 0, none⟩), .pointer (some ⟨z, 0, none⟩), .int .i64 h, .string k] w fun e w' => ∃ b, e = .returned (.bool b) ∧ (b = true ↔ sameS S S' h k true) ∧ FW q w' op vw S ∧ Only q.S w w' := by
  have C1 := ynext_any A h k
  rw [seekS_eq] at C1
  have C1 := hide C1
  go_enter Tryz.func67, Tryz.ntmps67
  go_wp2_with fail
  refine (unhide C1).mono ?_
  rintro e w1 ⟨rfl, A1, o1⟩
  have FF := hide (And.intro A1 o1)
  have s1 := o1.size
  have Z1 := hide (Z.keep o1 sep)
  clear A1 o1 C1
  have HD : Hid (sameS S S' h k true ↔ sA S h k true = sA S' h k true ∧ sC S h k true = sC S' h k true) := hide Iff.rfl
  generalize sA S h k true = a at *
  generalize sC S h k true = c at *
  go_upto_region 2 with (first | (refine wpList_alloc_kvd 9 rfl rfl rfl ?_; intro b w2 hB gB oB; have hB := hide hB; have oB := hide oB) | (refine wpList_store_kv rfl _ _ rfl b a rfl rfl (unhide hB) ?_; intro w3 n3 o3))
  have s2 := (unhide oB).size
  have s3 := o3.size
  have gb0 : w.heap.size ≤ b := by omega
  have F3 := hide (And.intro (((unhide FF).1.quiet (unhide oB)).loc A gb0 o3) (((unhide FF).2.q0 (unhide oB)).qn o3 gb0))
  have Z3 := ((unhide Z1).quiet (unhide oB)).keep o3 (fun x hx e => by have := Z.inn x hx; omega)
  have C2 := znext_any Z3 h k
  rw [seekS_eq] at C2
  have C2 := hide C2
  have B3 := hide n3
  clear Z3 n3 o3 hB oB FF Z1
  go_wp2_with fail
  refine (unhide C2).mono ?_
  rintro e w4 ⟨rfl, o4⟩
  have F4 := hide (And.intro ((unhide F3).1.quiet o4) ((unhide F3).2.q0 o4))
  have B4 := hide ((unhide B3).keep o4 (fun h => h))
  have s4 := o4.size
  have blt := Has.lt (unhide B4)
  clear o4 F3 B3 C2
  generalize sA S' h k true = a' at *
  generalize sC S' h k true = c' at *
  go_upto_region 3 with (first | (refine wpList_alloc_kvd 11 rfl rfl rfl ?_; intro b2 w5 hB gB2 oB; have hB := hide hB; have oB := hide oB) | (refine wpList_store_kv rfl _ _ rfl b2 a' rfl rfl (unhide hB) ?_; intro w6 n6 o6))
  have s5 := (unhide oB).size
  have gb2 : w.heap.size ≤ b2 := by omega
  have F6 := hide (And.intro (((unhide F4).1.quiet (unhide oB)).loc A gb2 o6) (((unhide F4).2.q0 (unhide oB)).qn o6 gb2))
  have B6 := ((unhide B4).keep (unhide oB) (fun h => h)).keep o6 (fun e => by omega)
  have c0 := B6.k.1
  have c1 := B6.v.1
  have d0 := n6.k.1
  have d1 := n6.v.1
  clear n6 o6 hB oB F4 B4 B6
  by_cases h1 : a.1 = a'.1
  · have b1 := seq_t h1
    by_cases h2 : a.2 = a'.2
    · have b2 := seq_t h2
      by_cases h3 : c = c'
      · have b3 : (c == c') = true := by simpa using h3
        have HR := hide ((unhide HD).mpr ⟨Prod.ext h1 h2, h3⟩)
        clear h1 h2 h3
        go_wp2_with fail
        go_ret
        exact ⟨_, rfl, ⟨fun _ => unhide HR, fun _ => rfl⟩, unhide F6⟩
      · have b3 : (c == c') = false := by simpa using h3
        have HR := hide (fun x => h3 ((unhide HD).mp x).2)
        clear h1 h2 h3
        go_wp2_with fail
        go_ret
        exact ⟨_, rfl, ⟨fun x => by simp at x, fun x => absurd x (unhide HR)⟩, unhide F6⟩
    · have b2 := seq_f h2
      have HR := hide (fun x => h2 (by rw [((unhide HD).mp x).1]))
      clear h1 h2
      go_wp2_with fail
      go_ret
      exact ⟨_, rfl, ⟨fun x => by simp at x, fun x => absurd x (unhide HR)⟩, unhide F6⟩
  · have b1 := seq_f h1
    have HR := hide (fun x => h1 (by rw [((unhide HD).mp x).1]))
    clear h1
    go_wp2_with fail
    go_ret
    exact ⟨_, rfl, ⟨fun x => by simp at x, fun x => absurd x (unhide HR)⟩, unhide F6⟩
end
end Go.Proofs.Qxb6500410aGreat
