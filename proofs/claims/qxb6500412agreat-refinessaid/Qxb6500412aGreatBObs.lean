/-
  OWN WORK. THE B-TREE: the forest's observers.
-/
import Derived.Test.Qxb6500412aGreatBFor
import Derived.Test.Qxb6500412aGreatBScn2
namespace Go.Proofs.Qxb6500412aGreat
open Go.RowKit Go.PlainAid
set_option linter.unusedSimpArgs false
set_option linter.unusedVariables false

/-- The tree under a handle, whatever the handle. -/
def Fz (F : Fo) (h : Int) : Option Root := if 0 ≤ h ∧ h < 8 then F h.toNat else none
theorem Fz_some {F : Fo} {h : Int} {r : Root} (e : Fz F h = some r) : 0 ≤ h ∧ h < 8 ∧ h.toNat < 8 ∧ F h.toNat = some r := by
  unfold Fz at e
  by_cases c : 0 ≤ h ∧ h < 8
  · rw [if_pos c] at e
    exact ⟨c.1, c.2, by omega, e⟩
  · rw [if_neg c] at e; cases e
section
variable {q : Gnd} {w : World} {op : Bool} {view : List ByteArray} {F : Fo}
theorem NV_pos {view : List ByteArray} (n : Nat) (b : ByteArray) (h : NV view n = some b) : 1 ≤ n := (NV_some h).1
theorem rootOf_F {d : ByteArray} (hd : Dir d F) (h : Int) : rootOf d h = pgR (Fz F h) := by
  unfold rootOf Fz
  by_cases c : 0 ≤ h ∧ h < 8
  · rw [if_pos c, if_pos c, hd.rt _ (by omega)]
  · rw [if_neg c, if_neg c]; rfl
theorem rootF_any (A : FA q w op view) (I : FI (NV view) F) (h : Int) : ∃ d, NV view 1 = some d ∧ Dir d F ∧
    Calls Tryz.prog 150 #[.pointer (some ⟨q.f, 0, none⟩), .int .i64 h] w fun e w' => e = .returned (.tuple #[.string d, .int .i64 (pgR (Fz F h))]) ∧ FA q w' op view ∧ Only q.S w w' := by
  obtain ⟨d, hn, hd⟩ := I.dir
  have := root_any A hn h
  rw [rootOf_F hd] at this
  exact ⟨d, hn, hd, this⟩
theorem bused_any (A : FA q w op view) (I : FI (NV view) F) (h : Int) :
    Calls Tryz.prog 91 #[.pointer (some ⟨q.f, 0, none⟩), .int .i64 h] w fun e w' => e = .returned (.bool (Fz F h).isSome) ∧ FA q w' op view ∧ Only q.S w w' := by
  obtain ⟨d, hn, hd, C⟩ := rootF_any A I h
  cases hf : Fz F h with
  | none =>
    rw [hf] at C
    have C := hide C
    have e0 : pgR none = 0 := rfl
    go_enter Tryz.func91, Tryz.ntmps91
    go_wp2_with fail
    refine (unhide C).mono ?_
    rintro e w1 ⟨rfl, A1, o1⟩
    have FF := hide (And.intro A1 o1)
    clear A1 o1
    go_wp2_with fail
    go_ret
    exact ⟨rfl, unhide FF⟩
  | some r =>
    rw [hf] at C
    obtain ⟨h0, h8, hi, hr⟩ := Fz_some hf
    have hp := I.pos NV_pos hi hr
    have C := hide C
    have e0 : pgR (some r) = pgT r.t := rfl
    have z1 : ((pgT r.t : Int) == 0) = false := by simp; omega
    clear hf hn hd hr
    go_enter Tryz.func91, Tryz.ntmps91
    go_wp2_with fail
    refine (unhide C).mono ?_
    rintro e w1 ⟨rfl, A1, o1⟩
    have FF := hide (And.intro A1 o1)
    clear A1 o1
    go_wp2_with fail
    go_ret
    refine ⟨?_, unhide FF⟩
    have z2 : ((pgT r.t : Int) != 0) = true := by simp; omega
    show Ending.returned (.bool ((pgT r.t : Int) != 0)) = _
    rw [z2]
    rfl
/-- What a lookup answers. -/
def getF (F : Fo) (h : Int) (k : ByteArray) : Value := match Fz F h with
  | none => .tuple #[.string bE, .int .i64 7]
  | some r => getV (getL k (entsL r.h (itT r.t)))
theorem lt_bE (k : ByteArray) : lt k bE = false := by rw [lt_ls]; exact bl_nil _
theorem bget_any (A : FA q w op view) (I : FI (NV view) F) (h : Int) (k : ByteArray) :
    Calls Tryz.prog 283 #[.pointer (some ⟨q.f, 0, none⟩), .int .i64 h, .string k] w fun e w' => e = .returned (getF F h k) ∧ FA q w' op view ∧ Only q.S w w' := by
  obtain ⟨d, hn, hd, C⟩ := rootF_any A I h
  cases hf : Fz F h with
  | none =>
    have hg : getF F h k = .tuple #[.string bE, .int .i64 7] := by unfold getF; rw [hf]
    rw [hg]
    rw [hf] at C
    have C := hide C
    have e0 : pgR none = 0 := rfl
    clear hg hn hd
    go_enter Tryz.func283, Tryz.ntmps283
    go_wp2_with fail
    refine (unhide C).mono ?_
    rintro e w1 ⟨rfl, A1, o1⟩
    have FF := hide (And.intro A1 o1)
    clear A1 o1
    go_wp2_with fail
    go_ret2
    exact ⟨rfl, unhide FF⟩
  | some r =>
    have hg : getF F h k = getV (getL k (entsL r.h (itT r.t))) := by unfold getF; rw [hf]
    rw [hg]
    rw [hf] at C
    obtain ⟨h0, h8, hi, hr⟩ := Fz_some hf
    have hp := I.pos NV_pos hi hr
    have g := I.gd _ r hi hr
    have ht := I.ht hi hr
    have C := hide C
    have e0 : pgR (some r) = pgT r.t := rfl
    have z1 : ((pgT r.t : Int) == 0) = false := by simp; omega
    have C2 := hide (fun w (A : FA q w op view) => find_any (k := k) r.h A g (lt_bE k) trivial 8 ht (by omega))
    clear hf hn hd hr hg
    go_enter Tryz.func283, Tryz.ntmps283
    go_wp2_with fail
    refine (unhide C).mono ?_
    rintro e w1 ⟨rfl, A1, o1⟩
    have C3 := hide (unhide C2 w1 A1)
    have O1 := hide o1
    clear A1 o1 C2
    go_wp2_with fail
    refine (unhide C3).mono ?_
    rintro e w2 ⟨rfl, A2, o2⟩
    have FF := hide (And.intro A2 ((unhide O1).qt o2))
    clear A2 o2
    unfold getV
    go_wp2_with fail
    go_ret2
    exact ⟨rfl, unhide FF⟩
/-- What a search answers. -/
def seekF (F : Fo) (h : Int) (k : ByteArray) (past : Bool) : Value := match Fz F h with
  | none => .tuple #[kvA kvD, .int .i64 7]
  | some r => seV (seekL k past (entsL r.h (itT r.t)))
set_option maxRecDepth 100000 in
theorem bseek_any (A : FA q w op view) (I : FI (NV view) F) (h : Int) (k : ByteArray) :
    Calls Tryz.prog 317 #[.pointer (some ⟨q.f, 0, none⟩), .int .i64 h, .string k] w fun e w' => e = .returned (seekF F h k false) ∧ FA q w' op view ∧ Only q.S w w' := by
  cases hf : Fz F h with
  | none =>
    have hg : seekF F h k false = .tuple #[kvA kvD, .int .i64 7] := by unfold seekF; rw [hf]
    rw [hg]
    have e0 : pgR none = 0 := rfl
    go_enter Tryz.func317, Tryz.ntmps317
    go_upto_region 1 with (first | (refine wpList_alloc_kvd 6 rfl rfl rfl ?_; intro p w0 hP gP oP))
    obtain ⟨d, hn, hd, C⟩ := rootF_any (A.quiet oP) I h
    rw [hf] at C
    have C := hide C
    have HP := hide hP
    have OP := hide oP
    have nSp := A.nS gP
    clear hP oP hg hn hd hf
    go_wp2_with fail
    refine (unhide C).mono ?_
    rintro e w1 ⟨rfl, A1, o1⟩
    have P1 := hide ((unhide HP).keep o1 nSp)
    have FF := hide (And.intro A1 ((unhide OP).up.qt o1))
    clear A1 o1 HP OP
    go_wp2_with (first | (refine wpList_store_kv rfl _ _ rfl p kvD rfl rfl (unhide P1) ?_; intro w4 n4 o4))
    refine bodyPost_ret (res2_kv Tryz.results317 _ rfl n4) rfl ?_
    exact ⟨rfl, (unhide FF).1.loc A gP o4, (unhide FF).2.qn o4 gP⟩
  | some r =>
    have hg : seekF F h k false = seV (seekL k false (entsL r.h (itT r.t))) := by unfold seekF; rw [hf]
    rw [hg]
    obtain ⟨h0, h8, hi, hr⟩ := Fz_some hf
    have hp := I.pos NV_pos hi hr
    have g := I.gd _ r hi hr
    have ht := I.ht hi hr
    have e0 : pgR (some r) = pgT r.t := rfl
    have z1 : ((pgT r.t : Int) == 0) = false := by simp; omega
    have C2 := hide (fun w (A : FA q w op view) => scan_any (k := k) (past := false) r.h A g 8 ht (by omega))
    go_enter Tryz.func317, Tryz.ntmps317
    go_upto_region 1 with (first | (refine wpList_alloc_kvd 6 rfl rfl rfl ?_; intro p w0 hP gP oP))
    obtain ⟨d, hn, hd, C⟩ := rootF_any (A.quiet oP) I h
    rw [hf] at C
    have C := hide C
    have HP := hide hP
    have OP := hide oP
    have nSp := A.nS gP
    clear hP oP hg hn hd hf hr
    go_wp2_with fail
    refine (unhide C).mono ?_
    rintro e w1 ⟨rfl, A1, o1⟩
    have P1 := hide ((unhide HP).keep o1 nSp)
    have O1 := hide ((unhide OP).up.qt o1)
    have C3 := hide (unhide C2 w1 A1)
    clear A1 o1 HP OP C2
    go_wp2_with fail
    refine (unhide C3).mono ?_
    rintro e w2 ⟨rfl, A2, o2⟩
    have P2 := hide ((unhide P1).keep o2 nSp)
    have FF := hide (And.intro A2 ((unhide O1).qt o2))
    clear A2 o2 P1 O1
    unfold seV
    go_wp2_with (first | (refine wpList_store_kv rfl _ _ rfl p _ rfl rfl (unhide P2) ?_; intro w4 n4 o4))
    refine bodyPost_ret (res2_kv Tryz.results317 _ rfl n4) rfl ?_
    exact ⟨rfl, (unhide FF).1.loc A gP o4, (unhide FF).2.qn o4 gP⟩
set_option maxRecDepth 100000 in
theorem bnext_any (A : FA q w op view) (I : FI (NV view) F) (h : Int) (k : ByteArray) :
    Calls Tryz.prog 319 #[.pointer (some ⟨q.f, 0, none⟩), .int .i64 h, .string k] w fun e w' => e = .returned (seekF F h k true) ∧ FA q w' op view ∧ Only q.S w w' := by
  cases hf : Fz F h with
  | none =>
    have hg : seekF F h k true = .tuple #[kvA kvD, .int .i64 7] := by unfold seekF; rw [hf]
    rw [hg]
    have e0 : pgR none = 0 := rfl
    go_enter Tryz.func319, Tryz.ntmps319
    go_upto_region 1 with (first | (refine wpList_alloc_kvd 6 rfl rfl rfl ?_; intro p w0 hP gP oP))
    obtain ⟨d, hn, hd, C⟩ := rootF_any (A.quiet oP) I h
    rw [hf] at C
    have C := hide C
    have HP := hide hP
    have OP := hide oP
    have nSp := A.nS gP
    clear hP oP hg hn hd hf
    go_wp2_with fail
    refine (unhide C).mono ?_
    rintro e w1 ⟨rfl, A1, o1⟩
    have P1 := hide ((unhide HP).keep o1 nSp)
    have FF := hide (And.intro A1 ((unhide OP).up.qt o1))
    clear A1 o1 HP OP
    go_wp2_with (first | (refine wpList_store_kv rfl _ _ rfl p kvD rfl rfl (unhide P1) ?_; intro w4 n4 o4))
    refine bodyPost_ret (res2_kv Tryz.results319 _ rfl n4) rfl ?_
    exact ⟨rfl, (unhide FF).1.loc A gP o4, (unhide FF).2.qn o4 gP⟩
  | some r =>
    have hg : seekF F h k true = seV (seekL k true (entsL r.h (itT r.t))) := by unfold seekF; rw [hf]
    rw [hg]
    obtain ⟨h0, h8, hi, hr⟩ := Fz_some hf
    have hp := I.pos NV_pos hi hr
    have g := I.gd _ r hi hr
    have ht := I.ht hi hr
    have e0 : pgR (some r) = pgT r.t := rfl
    have z1 : ((pgT r.t : Int) == 0) = false := by simp; omega
    have C2 := hide (fun w (A : FA q w op view) => scan_any (k := k) (past := true) r.h A g 8 ht (by omega))
    go_enter Tryz.func319, Tryz.ntmps319
    go_upto_region 1 with (first | (refine wpList_alloc_kvd 6 rfl rfl rfl ?_; intro p w0 hP gP oP))
    obtain ⟨d, hn, hd, C⟩ := rootF_any (A.quiet oP) I h
    rw [hf] at C
    have C := hide C
    have HP := hide hP
    have OP := hide oP
    have nSp := A.nS gP
    clear hP oP hg hn hd hf hr
    go_wp2_with fail
    refine (unhide C).mono ?_
    rintro e w1 ⟨rfl, A1, o1⟩
    have P1 := hide ((unhide HP).keep o1 nSp)
    have O1 := hide ((unhide OP).up.qt o1)
    have C3 := hide (unhide C2 w1 A1)
    clear A1 o1 HP OP C2
    go_wp2_with fail
    refine (unhide C3).mono ?_
    rintro e w2 ⟨rfl, A2, o2⟩
    have P2 := hide ((unhide P1).keep o2 nSp)
    have FF := hide (And.intro A2 ((unhide O1).qt o2))
    clear A2 o2 P1 O1
    unfold seV
    go_wp2_with (first | (refine wpList_store_kv rfl _ _ rfl p _ rfl rfl (unhide P2) ?_; intro w4 n4 o4))
    refine bodyPost_ret (res2_kv Tryz.results319 _ rfl n4) rfl ?_
    exact ⟨rfl, (unhide FF).1.loc A gP o4, (unhide FF).2.qn o4 gP⟩
end
end Go.Proofs.Qxb6500412aGreat
