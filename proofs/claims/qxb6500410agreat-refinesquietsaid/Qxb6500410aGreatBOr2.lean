/-
  OWN WORK. THE B-TREE LAW: Ordered, the walk.
-/
import Derived.Test.Qxb6500410aGreatBOrd
namespace Go.Proofs.Qxb6500410aGreat
open Go.RowKit Go.PlainAid
set_option linter.unusedSimpArgs false
set_option linter.unusedVariables false

section
variable {q : Gnd} {w w' : World} {op : Bool} {S S' : Vu} {g tb : Nat} {iv : Value} {T : Nat → Bool} {its : List Itm}
theorem FV.nS (A : FV q w op S) {k : Nat} (hk : w.heap.size ≤ k) : ¬ q.S k := by
  obtain ⟨view, F, A, I, rfl⟩ := A
  exact A.nS hk
theorem FV.loc {w0 : World} {op0 : Bool} {S0 : Vu} (A : FV q w op S) (A0 : FV q w0 op0 S0) {k : Nat} (hk : w0.heap.size ≤ k) (ho : Only (fun x => x = k) w w') : FV q w' op S := by
  obtain ⟨view, F, A, I, rfl⟩ := A
  obtain ⟨view0, F0, A0, I0, rfl⟩ := A0
  exact ⟨view, F, A.loc A0 hk ho, I, rfl⟩
set_option maxRecDepth 100000 in
set_option maxHeartbeats 4000000 in
theorem ordered_any (A : FV q w op S) (G : GhAt w g tb iv T its) (R : GR S' T its) (sep : ∀ k, GhF g tb iv k → ¬ q.S k) (h : Int) :
    Calls Tryz.prog 39 #[.pointer (some ⟨q.f, 0, none⟩), .pointer (some ⟨g, 0, none⟩), .int .i64 h] w fun e w' => ∃ b, e = .returned (.bool b) ∧ (b = true ↔ Vz S h = Vz S' h) ∧ FV q w' op S ∧ Only q.S w w' := by
  have C0 := vseek_any A h bE
  rw [seekS_eq] at C0
  have C0 := hide C0
  go_enter Tryz.func39, Tryz.ntmps39
  go_wp2_with fail
  refine (unhide C0).mono ?_
  rintro e w1 ⟨rfl, A1, o1⟩
  have HA := hide A1
  have HO := hide o1
  have HG := hide (G.keep o1 sep)
  have s1 := o1.size
  clear A1 o1 C0
  go_upto_region 2 with (first | (refine wpList_alloc_kvd 7 rfl rfl rfl ?_; intro b w2 hB gB oB; have hB := hide hB; have oB := hide oB) | (refine wpList_store_kv rfl _ _ rfl b _ rfl rfl (unhide hB) ?_; intro w3 n3 o3))
  have HB := hide n3
  have s2 := (unhide oB).size
  have s3 := o3.size
  have gb0 : w.heap.size ≤ b := by omega
  have ngb : ∀ k, GhF g tb iv k → k ≠ b := fun k hk e => by have := G.lt k hk; omega
  have HA3 := hide (((unhide HA).quiet (unhide oB)).loc A gb0 o3)
  have HG3 := hide (((unhide HG).quiet (unhide oB)).keep o3 ngb)
  have HO3 := hide (((unhide HO).q0 (unhide oB)).qn o3 gb0)
  have CH := ghas_any (unhide HG3) h
  rw [R.hasT] at CH
  have CH := hide CH
  have bS : ¬ q.S b := A.nS gb0
  clear n3 o3 hB oB HA HG HO
  have c0 := (unhide HB).k.1
  have c1 := (unhide HB).v.1
  go_wp2_with fail
  refine (unhide CH).mono ?_
  rintro e w4 ⟨rfl, rfl⟩
  clear CH
  cases hv' : (Vz S' h).isSome with
  | false =>
    cases hv : (Vz S h).isSome with
    | false =>
      obtain ⟨e1, e2⟩ := OW.bad (S := S) (h := h) (k := bE) (past := false) hv
      have HR := hide (show Vz S h = Vz S' h by
        have n1 : Vz S h = none := by simpa using hv
        have n2 : Vz S' h = none := by simpa using hv'
        rw [n1, n2])
      have b1 : (sC S h bE false == 7) = true := by rw [e2]; rfl
      have b2 := iE_t (show (sA S h bE false).1 = bE by rw [e1]; rfl)
      have b3 := iE_t (show (sA S h bE false).2 = bE by rw [e1]; rfl)
      clear e1 e2 hv hv'
      go_wp2_with fail
      go_ret
      exact ⟨_, rfl, ⟨fun _ => unhide HR, fun _ => rfl⟩, unhide HA3, unhide HO3⟩
    | true =>
      have HR := hide (show ¬ Vz S h = Vz S' h from fun e => by rw [e, hv'] at hv; cases hv)
      have b1 : (sC S h bE false == 7) = false := by
        unfold sC
        cases hz : Vz S h with
        | none => rw [hz] at hv; cases hv
        | some l =>
          unfold seC
          simp only
          split <;> rfl
      clear hv hv'
      go_wp2_with fail
      go_ret
      exact ⟨_, rfl, ⟨fun c => by simp at c, fun c => absurd c (unhide HR)⟩, unhide HA3, unhide HO3⟩
  | true =>
    have CL := hide (gleast_any (unhide HG3) h bE false)
    have HV := hide hv'
    clear hv'
    go_wp2_with fail
    refine (unhide CL).mono ?_
    rintro e w5 ⟨i0, rfl, R0, o5⟩
    have HW := hide (OW.start (S := S) (h := h) R A.ok R0)
    have HA5 := hide ((unhide HA3).quiet o5)
    have HG5 := hide ((unhide HG3).quiet o5)
    have HB5 := hide ((unhide HB).keep o5 (fun h => h))
    have HO5 := hide ((unhide HO3).q0 o5)
    clear R0 o5 CL c0 c1 HA3 HG3 HB HO3 C0
    go_upto_region 6 with fail
    go_loopw [8, 9, 10] (fun cv jv nv wr => ∃ (m : Nat) (k : ByteArray) (past : Bool) (i : Int) (p r r' : List KV), nv = .int .i64 m ∧ jv = .int .i64 i ∧ cv = .int .i64 (sC S h k past) ∧ OW S S' h its m k past i p r r' ∧ FV q wr op S ∧ GhAt wr g tb iv T its ∧ KvAt wr b (sA S h k past) ∧ Only q.S w wr) (fun _ _ nv _ => 65 - (intOf nv).toNat)
    case atStart => exact ⟨0, bE, false, i0, [], _, _, rfl, rfl, rfl, unhide HW, unhide HA5, unhide HG5, unhide HB5, unhide HO5⟩
    case round =>
      clear HA5 HG5 HB5 HO5 HW
      obtain ⟨m, k, past, i, p, r, r', rfl, rfl, rfl, W, A5, G5, B5, O5⟩ := hrel
      have m64 := W.short R.ok
      have n1 : decide ((m : Int) ≤ 64) = true := decide_eq_true (by omega)
      have n1p : (m : Int) ≤ 64 := by omega
      have HA5 := hide A5
      have HG5 := hide G5
      have HB5 := hide B5
      have HO5 := hide O5
      have WC : Hid (i = -1 ∨ ∃ (j : Nat) (y : Itm), i = j ∧ its[j]? = some y) := hide (by
        rcases W.i with ⟨e, _⟩ | ⟨j, y, hy, e, _⟩
        · exact .inl e
        · exact .inr ⟨j, y, e, hy⟩)
      have HW := hide W
      clear W A5 G5 B5 O5
      rcases unhide WC with rfl | ⟨j, y, rfl, hy⟩
      · have CS := hide (samekv_neg (unhide HG5) (sA S h k past) (sC S h k past))
        go_wp2_with (first | (refine wpList_load_kv rfl _ rfl b rfl (unhide HB5) ?_))
        refine (unhide CS).mono ?_
        rintro e w6 ⟨rfl, o6⟩
        have HA6 := hide ((unhide HA5).quiet o6)
        have HO6 := hide ((unhide HO5).q0 o6)
        clear o6 CS
        cases hsk : skN (sA S h k past) (sC S h k past) with
        | true =>
          have HR := hide ((unhide HW).endT (unhide HV) hsk)
          clear hsk
          go_wp2_with fail
          go_ret
          exact ⟨_, rfl, ⟨fun _ => unhide HR, fun _ => rfl⟩, unhide HA6, unhide HO6⟩
        | false =>
          have HR := hide ((unhide HW).endF (unhide HV) hsk)
          clear hsk
          go_wp2_with fail
          go_ret
          exact ⟨_, rfl, ⟨fun c => by simp at c, fun c => absurd c (unhide HR)⟩, unhide HA6, unhide HO6⟩
      · have CS := hide (samekv_pos (unhide HG5) j y hy (sA S h k past) (sC S h k past))
        have HY := hide hy
        clear hy WC
        have z0 : decide ((j : Int) < 0) = false := decide_eq_false (by omega)
        go_wp2_with (first | (refine wpList_load_kv rfl _ rfl b rfl (unhide HB5) ?_))
        refine (unhide CS).mono ?_
        rintro e w6 ⟨rfl, o6⟩
        have HA6 := hide ((unhide HA5).quiet o6)
        have HO6 := hide ((unhide HO5).q0 o6)
        have HG6 := hide ((unhide HG5).quiet o6)
        have HB6 := hide ((unhide HB5).keep o6 (fun h => h))
        clear o6 CS HA5 HO5 HG5 HB5
        cases hsk : skP y (sA S h k past) (sC S h k past) with
        | true =>
          have HR := (unhide HW).stepT (unhide HY) A.ok R.ok hsk
          have c0 := (unhide HB6).k.1
          rw [HR.1] at c0
          have HR := hide (HR.2 T R)
          have CN := vnext_any (unhide HA6) h y.K
          rw [seekS_eq] at CN
          have CN := hide CN
          clear hsk
          go_wp2_with fail
          refine (unhide CN).mono ?_
          rintro e w7 ⟨rfl, A7, o7⟩
          have HA7 := hide A7
          have HO7 := hide ((unhide HO6).qt o7)
          have HG7 := hide ((unhide HG6).keep o7 sep)
          have HB7 := hide ((unhide HB6).keep o7 bS)
          clear CN A7 o7 c0 HA6 HO6 HG6 HB6
          go_upto_region 14 with (first | (refine wpList_store_kv rfl _ _ rfl b _ rfl rfl (unhide HB7) ?_; intro w8 n8 o8))
          have HB8 := hide n8
          have HA8 := hide ((unhide HA7).loc A gb0 o8)
          have HG8 := hide ((unhide HG7).keep o8 ngb)
          have HO8 := hide ((unhide HO7).qn o8 gb0)
          have CL := hide (gleast_any (unhide HG8) h y.K true)
          clear n8 o8 HA7 HO7 HG7 HB7
          go_wp2_with fail
          refine (unhide CL).mono ?_
          rintro e w9 ⟨i9, rfl, R9, o9⟩
          have HA9 := hide ((unhide HA8).quiet o9)
          have HO9 := hide ((unhide HO8).q0 o9)
          have HG9 := hide ((unhide HG8).quiet o9)
          have HB9 := hide ((unhide HB8).keep o9 (fun h => h))
          have HW9 := hide (unhide HR i9 R9)
          clear o9 R9 CL HA8 HO8 HG8 HB8
          go_wp2_with fail
          obtain ⟨p2, r2, r2', W9⟩ := unhide HW9
          exact ⟨⟨m + 1, y.K, true, i9, p2, r2, r2', by go_num, rfl, rfl, W9, unhide HA9, unhide HG9, unhide HB9, unhide HO9⟩, by simp [intOf]; omega⟩
        | false =>
          have HR := hide ((unhide HW).stepF (unhide HY) (unhide HV) hsk)
          clear hsk
          go_wp2_with fail
          go_ret
          exact ⟨_, rfl, ⟨fun c => by simp at c, fun c => absurd c (unhide HR)⟩, unhide HA6, unhide HO6⟩
end
end Go.Proofs.Qxb6500410aGreat
