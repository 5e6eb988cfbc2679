/-
  OWN WORK. THE B-TREE: operations of the forest that are refused; Insert of a key that is there.
-/
import Derived.Test.Qxb6500412aGreatBFor3
import Derived.Test.Qxb6500412aGreatBPw2
namespace Go.Proofs.Qxb6500412aGreat
open Go.RowKit Go.PlainAid
set_option linter.unusedSimpArgs false
set_option linter.unusedVariables false

section
variable {q : Gnd} {w : World} {op : Bool} {view : List ByteArray} {F : Fo}
theorem qintxn (A : FA q w op view) : Calls Tryz.prog 151 #[.pointer (some ⟨q.p, 0, none⟩)] w fun e w' => e = .returned (.bool op) ∧ w = w' := pintxn_any A.pg
theorem bintxn_any (A : FA q w op view) : Calls Tryz.prog 232 #[.pointer (some ⟨q.f, 0, none⟩)] w fun e w' => e = .returned (.bool op) ∧ w = w' := by
  have c1 := A.ptr
  have C := hide (qintxn A)
  go_enter Tryz.func232, Tryz.ntmps232
  go_wp2_with fail
  refine (unhide C).mono ?_
  rintro e w1 ⟨rfl, rfl⟩
  go_wp2_with fail
  go_ret
  exact ⟨rfl, rfl⟩
/-- Nothing is turned. -/
def Same (q : Gnd) (op : Bool) (view : List ByteArray) (c : Int) (w : World) (e : Ending) (w' : World) : Prop := e = .returned (.int .i64 c) ∧ FA q w' op view ∧ Only q.S w w'
theorem binsert_shut (A : FA q w false view) (h : Int) (k v : ByteArray) : Calls Tryz.prog 237 #[.pointer (some ⟨q.f, 0, none⟩), .int .i64 h, .string k, .string v] w (Same q false view 2 w) := by
  have c1 := A.ptr
  have C := hide (qintxn A)
  go_enter Tryz.func237, Tryz.ntmps237
  go_wp2_with fail
  refine (unhide C).mono ?_
  rintro e w1 ⟨rfl, rfl⟩
  go_wp2_with fail
  go_ret
  exact ⟨rfl, A, Only.refl _ _⟩
theorem bdelete_shut (A : FA q w false view) (h : Int) (k : ByteArray) : Calls Tryz.prog 242 #[.pointer (some ⟨q.f, 0, none⟩), .int .i64 h, .string k] w (Same q false view 2 w) := by
  have c1 := A.ptr
  have C := hide (qintxn A)
  go_enter Tryz.func242, Tryz.ntmps242
  go_wp2_with fail
  refine (unhide C).mono ?_
  rintro e w1 ⟨rfl, rfl⟩
  go_wp2_with fail
  go_ret
  exact ⟨rfl, A, Only.refl _ _⟩
theorem bdrop_shut (A : FA q w false view) (h : Int) : Calls Tryz.prog 241 #[.pointer (some ⟨q.f, 0, none⟩), .int .i64 h] w (Same q false view 2 w) := by
  have c1 := A.ptr
  have C := hide (qintxn A)
  go_enter Tryz.func241, Tryz.ntmps241
  go_wp2_with fail
  refine (unhide C).mono ?_
  rintro e w1 ⟨rfl, rfl⟩
  go_wp2_with fail
  go_ret
  exact ⟨rfl, A, Only.refl _ _⟩
theorem bcreate_shut (A : FA q w false view) : Calls Tryz.prog 93 #[.pointer (some ⟨q.f, 0, none⟩)] w fun e w' => e = .returned (.tuple #[.int .i64 (-1), .int .i64 2]) ∧ FA q w' false view ∧ Only q.S w w' := by
  have c1 := A.ptr
  have C := hide (qintxn A)
  go_enter Tryz.func93, Tryz.ntmps93
  go_wp2_with fail
  refine (unhide C).mono ?_
  rintro e w1 ⟨rfl, rfl⟩
  go_wp2_with fail
  go_ret2
  exact ⟨rfl, A, Only.refl _ _⟩
theorem binsert_bad (A : FA q w true view) (I : FI (NV view) F) (h : Int) (k v : ByteArray) (hf : Fz F h = none) : Calls Tryz.prog 237 #[.pointer (some ⟨q.f, 0, none⟩), .int .i64 h, .string k, .string v] w (Same q true view 7 w) := by
  have c1 := A.ptr
  have C := hide (qintxn A)
  obtain ⟨d, hn, hd, CR⟩ := rootF_any A I h
  rw [hf] at CR
  have CR := hide CR
  have e0 : pgR none = 0 := rfl
  clear hn hd hf
  go_enter Tryz.func237, Tryz.ntmps237
  go_wp2_with fail
  refine (unhide C).mono ?_
  rintro e w1 ⟨rfl, rfl⟩
  go_wp2_with fail
  refine (unhide CR).mono ?_
  rintro e w1 ⟨rfl, A1, o1⟩
  have FF := hide (And.intro A1 o1)
  clear A1 o1
  go_wp2_with fail
  go_ret
  exact ⟨rfl, unhide FF⟩
theorem bdelete_bad (A : FA q w true view) (I : FI (NV view) F) (h : Int) (k : ByteArray) (hf : Fz F h = none) : Calls Tryz.prog 242 #[.pointer (some ⟨q.f, 0, none⟩), .int .i64 h, .string k] w (Same q true view 7 w) := by
  have c1 := A.ptr
  have C := hide (qintxn A)
  obtain ⟨d, hn, hd, CR⟩ := rootF_any A I h
  rw [hf] at CR
  have CR := hide CR
  have e0 : pgR none = 0 := rfl
  clear hn hd hf
  go_enter Tryz.func242, Tryz.ntmps242
  go_wp2_with fail
  refine (unhide C).mono ?_
  rintro e w1 ⟨rfl, rfl⟩
  go_wp2_with fail
  refine (unhide CR).mono ?_
  rintro e w1 ⟨rfl, A1, o1⟩
  have FF := hide (And.intro A1 o1)
  clear A1 o1
  go_wp2_with fail
  go_ret
  exact ⟨rfl, unhide FF⟩
theorem bdrop_bad (A : FA q w true view) (I : FI (NV view) F) (h : Int) (hf : Fz F h = none) : Calls Tryz.prog 241 #[.pointer (some ⟨q.f, 0, none⟩), .int .i64 h] w (Same q true view 7 w) := by
  have c1 := A.ptr
  have C := hide (qintxn A)
  obtain ⟨d, hn, hd, CR⟩ := rootF_any A I h
  rw [hf] at CR
  have CR := hide CR
  have e0 : pgR none = 0 := rfl
  clear hn hd hf
  go_enter Tryz.func241, Tryz.ntmps241
  go_wp2_with fail
  refine (unhide C).mono ?_
  rintro e w1 ⟨rfl, rfl⟩
  go_wp2_with fail
  refine (unhide CR).mono ?_
  rintro e w1 ⟨rfl, A1, o1⟩
  have FF := hide (And.intro A1 o1)
  clear A1 o1
  go_wp2_with fail
  go_ret
  exact ⟨rfl, unhide FF⟩
/-- A tree is there: what the walks lean on. -/
structure Tree (view : List ByteArray) (F : Fo) (h : Int) (r : Root) : Prop where
  h0 : 0 ≤ h
  h8 : h < 8
  hi : h.toNat < 8
  hr : F h.toNat = some r
  gd : Gd (NV view) r.h bE none (lo0 r.h) r.t
  ht : r.h < 8
  p1 : 1 ≤ pgT r.t
  z1 : ((pgT r.t : Int) == 0) = false
theorem FI.tree {view : List ByteArray} (I : FI (NV view) F) {h : Int} {r : Root} (hf : Fz F h = some r) : Tree view F h r := by
  obtain ⟨h0, h8, hi, hr⟩ := Fz_some hf
  have hp := I.pos NV_pos hi hr
  exact ⟨h0, h8, hi, hr, I.gd _ r hi hr, I.ht hi hr, hp, by simp; omega⟩
theorem rootT_any (A : FA q w op view) (I : FI (NV view) F) {h : Int} {r : Root} (hf : Fz F h = some r) : ∃ d, NV view 1 = some d ∧ Dir d F ∧
    Calls Tryz.prog 150 #[.pointer (some ⟨q.f, 0, none⟩), .int .i64 h] w fun e w' => e = .returned (.tuple #[.string d, .int .i64 (pgT r.t)]) ∧ FA q w' op view ∧ Only q.S w w' := by
  obtain ⟨d, hn, hd, CR⟩ := rootF_any A I h
  rw [hf] at CR
  exact ⟨d, hn, hd, CR⟩
theorem binsert_key (A : FA q w true view) (I : FI (NV view) F) {h : Int} {r : Root} (hf : Fz F h = some r) (k v : ByteArray) (hs : 16 < k.size ∨ 16 < v.size) : Calls Tryz.prog 237 #[.pointer (some ⟨q.f, 0, none⟩), .int .i64 h, .string k, .string v] w (Same q true view 8 w) := by
  have T := I.tree hf
  have z1 := T.z1
  have c1 := A.ptr
  have C := hide (qintxn A)
  obtain ⟨d, hn, hd, CR⟩ := rootT_any A I hf
  have CR := hide CR
  clear hn hd hf T
  by_cases hk : 16 < k.size
  · have a1 : decide ((k.size : Int) > 16) = true := decide_eq_true (by omega)
    have a1p : 16 < (k.size : Int) := by omega
    go_enter Tryz.func237, Tryz.ntmps237
    go_wp2_with fail
    refine (unhide C).mono ?_
    rintro e w1 ⟨rfl, rfl⟩
    go_wp2_with fail
    refine (unhide CR).mono ?_
    rintro e w1 ⟨rfl, A1, o1⟩
    have FF := hide (And.intro A1 o1)
    clear A1 o1
    go_wp2_with fail
    go_ret
    exact ⟨rfl, unhide FF⟩
  · have a1 : decide ((k.size : Int) > 16) = false := decide_eq_false (by omega)
    have a1p : ¬ (16 < (k.size : Int)) := by omega
    have a2 : decide ((v.size : Int) > 16) = true := decide_eq_true (by omega)
    have a2p : 16 < (v.size : Int) := by omega
    go_enter Tryz.func237, Tryz.ntmps237
    go_wp2_with fail
    refine (unhide C).mono ?_
    rintro e w1 ⟨rfl, rfl⟩
    go_wp2_with fail
    refine (unhide CR).mono ?_
    rintro e w1 ⟨rfl, A1, o1⟩
    have FF := hide (And.intro A1 o1)
    clear A1 o1
    go_wp2_with fail
    go_ret
    exact ⟨rfl, unhide FF⟩
theorem bdelete_none (A : FA q w true view) (I : FI (NV view) F) {h : Int} {r : Root} (hf : Fz F h = some r) (k : ByteArray) (hk : getL k (entsL r.h (itT r.t)) = none) : Calls Tryz.prog 242 #[.pointer (some ⟨q.f, 0, none⟩), .int .i64 h, .string k] w (Same q true view 9 w) := by
  have T := I.tree hf
  have z1 := T.z1
  have c1 := A.ptr
  have C := hide (qintxn A)
  obtain ⟨d, hn, hd, CR⟩ := rootT_any A I hf
  have CR := hide CR
  have C2 : ∀ w (A : FA q w true view), Calls Tryz.prog 303 #[.pointer (some ⟨q.f, 0, none⟩), .int .i64 (pgT r.t), .string k, .int .i64 8] w fun e w' => e = .returned (.tuple #[.string bE, .int .i64 9]) ∧ FA q w' true view ∧ Only q.S w w' := fun w A => by
    have := find_any (k := k) r.h A T.gd (lt_bE k) trivial 8 T.ht (by omega)
    rw [hk] at this
    exact this
  have C2 := hide C2
  clear hn hd hf T hk
  go_enter Tryz.func242, Tryz.ntmps242
  go_wp2_with fail
  refine (unhide C).mono ?_
  rintro e w1 ⟨rfl, rfl⟩
  go_wp2_with fail
  refine (unhide CR).mono ?_
  rintro e w1 ⟨rfl, A1, o1⟩
  have C3 := hide (unhide C2 w1 A1)
  have O1 := hide o1
  clear A1 o1 C2
  go_wp2_with fail
  refine (unhide C3).mono ?_
  rintro e w2 ⟨rfl, A2, o2⟩
  have FF := hide (And.intro A2 ((unhide O1).qt o2))
  clear A2 o2
  go_wp2_with fail
  go_ret
  exact ⟨rfl, unhide FF⟩
/-- A tree of the forest is another now. -/
def Turned (q : Gnd) (F : Fo) (i : Nat) (P : Option Root → Prop) (w w' : World) : Prop := ∃ (view' : List ByteArray) (ro : Option Root), P ro ∧ FA q w' true view' ∧ FI (NV view') (upd F i ro) ∧ Only q.S w w'
set_option maxRecDepth 100000 in
theorem binsert_old (A : FA q w true view) (I : FI (NV view) F) {h : Int} {r : Root} (hf : Fz F h = some r) (k v v0 : ByteArray) (hk16 : k.size ≤ 16) (hv16 : v.size ≤ 16) (hk : getL k (entsL r.h (itT r.t)) = some v0) :
    Calls Tryz.prog 237 #[.pointer (some ⟨q.f, 0, none⟩), .int .i64 h, .string k, .string v] w fun e w' => e = .returned (.int .i64 0) ∧ Turned q F h.toNat (fun ro => ∃ r', ro = some r' ∧ entsR ro = putL k v (entsR (F h.toNat))) w w' := by
  have T := I.tree hf
  have z1 := T.z1
  have c1 := A.ptr
  have C := hide (qintxn A)
  obtain ⟨d, hn, hd, CR⟩ := rootT_any A I hf
  have CR := hide CR
  have hhas : HasK k (entsL r.h (itT r.t)) := ⟨(k, v0), getL_some hk, rfl⟩
  have C2 : ∀ w (A : FA q w true view), Calls Tryz.prog 303 #[.pointer (some ⟨q.f, 0, none⟩), .int .i64 (pgT r.t), .string k, .int .i64 8] w fun e w' => e = .returned (.tuple #[.string v0, .int .i64 0]) ∧ FA q w' true view ∧ Only q.S w w' := fun w A => by
    have := find_any (k := k) r.h A T.gd (lt_bE k) trivial 8 T.ht (by omega)
    rw [hk] at this
    exact this
  have C2 := hide C2
  have C4 := hide (fun w (A : FA q w true view) => put_any (k := k) (v := v) r.h A T.gd (lt_bE k) trivial hk16 hv16 I.cov (fun hn => absurd hhas hn) 8 T.ht (by omega))
  have a1 : decide ((k.size : Int) > 16) = false := decide_eq_false (by omega)
  have a1p : ¬ (16 < (k.size : Int)) := by omega
  have a2 : decide ((v.size : Int) > 16) = false := decide_eq_false (by omega)
  have a2p : ¬ (16 < (v.size : Int)) := by omega
  have HH := hide (And.intro hn (And.intro hd (And.intro T hhas)))
  clear hn hd hf T hk hhas
  go_enter Tryz.func237, Tryz.ntmps237
  go_wp2_with fail
  refine (unhide C).mono ?_
  rintro e w1 ⟨rfl, rfl⟩
  go_wp2_with fail
  refine (unhide CR).mono ?_
  rintro e w1 ⟨rfl, A1, o1⟩
  have C3 := hide (unhide C2 w1 A1)
  have O1 := hide o1
  clear A1 o1 C2
  go_wp2_with fail
  refine (unhide C3).mono ?_
  rintro e w2 ⟨rfl, A2, o2⟩
  have C5 := hide (unhide C4 w2 A2)
  have O2 := hide ((unhide O1).qt o2)
  clear A2 o2 C4
  go_wp2_with fail
  refine (unhide C5).mono ?_
  rintro e w3 ⟨view', fresh, A3, o3, hcase⟩
  rcases hcase with ⟨t', rfl, P⟩ | ⟨t1, t2, up, rfl, P⟩
  · have FF := hide (And.intro A3 (And.intro ((unhide O2).qt o3) P))
    clear A3 o3 P
    unfold bE
    go_wp2_with fail
    go_ret
    obtain ⟨A3, o3, P⟩ := unhide FF
    obtain ⟨hn, hd, T, hhas⟩ := unhide HH
    have hl := putL_len_old (v := v) (Ch_srt (fun e he => (T.gd.sz.2.2 e he).2) T.gd.bd.2) hhas
    have hul := upd_len F T.hi (some ⟨r.h, t'⟩)
    have eF : entsR (F h.toNat) = entsL r.h (itT r.t) := by rw [T.hr]; rfl
    have eN : entsR (some ⟨r.h, t'⟩) = putL k v (entsL r.h (itT r.t)) := P.en
    have hlen : (all8 entsR (upd F h.toNat (some ⟨r.h, t'⟩))).length = (all8 entsR F).length := by rw [eF, eN, hl] at hul; omega
    have hD : Dir d (upd F h.toNat (some ⟨r.h, t'⟩)) := by
      refine ⟨hd.sz, fun j hj => ?_, by rw [hlen]; exact hd.ct⟩
      by_cases e : j = h.toNat
      · subst e
        rw [upd_same, hd.rt _ hj, T.hr]
        exact P.pg.symm
      · rw [upd_other _ _ e, hd.rt j hj]
    have hI := I.putA T.hi T.hr P hD (by rw [hlen]; exact I.ct)
    have h1 : NV view' 1 = NV view 1 := P.fr.out 1 (I.one T.hi T.hr) (fun hm => by rw [P.old hhas] at hm; simp at hm)
    have hs : setN (NV view') 1 (some d) = NV view' := by
      funext n
      unfold setN
      by_cases e : n = 1
      · rw [if_pos e, e, h1, hn]
      · rw [if_neg e]
    rw [hs] at hI
    exact ⟨rfl, view', some ⟨r.h, t'⟩, ⟨_, rfl, by rw [eN, eF]⟩, A3, hI, o3⟩
  · exact absurd (unhide HH).2.2.2 P.new
end
end Go.Proofs.Qxb6500412aGreat
