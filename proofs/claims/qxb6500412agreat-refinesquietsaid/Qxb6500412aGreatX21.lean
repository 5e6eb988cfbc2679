/-
  OWN WORK. TXN: Commit (written by tools/gen_x21.py).
-/
import Derived.Test.Qxb6500412aGreatX20
namespace Go.Proofs.Qxb6500412aGreat
open Go.RowKit Go.PlainAid
set_option linter.unusedSimpArgs false
set_option linter.unusedVariables false

section
variable {q : Gnd} {w w' : World} {g x : Nat} {X : Xs} {op : Bool} {S : Vu} {T : List (Tb × Hd)} {D : Db} {s : Nat}
theorem endS_wv (X : Xs) (s o : Nat) : (X.endS s).wv o = if o = s then .slice none 0 0 else X.wv o := by
  unfold Xs.endS
  rw [(Xs.relN_w _ s 3).1]
  rfl
theorem XR.ends (h : XR q w g x X op S) (hM : XM w' g x (X.endS s)) (ho : Only (fun k => k = g) w w') : XR q w' g x (X.endS s) op S := by
  refine ⟨h.st.keep ho (fun k hk e => ?_), hM, fun k hk => ?_⟩
  · have := h.off g (.inl rfl)
    subst e
    rcases hk with hk | hk
    · exact this.1 hk
    · exact this.2 hk
  · refine h.off k ?_
    rcases hk with e | ⟨o, ho4, hk⟩ | ⟨o, ho4, hk⟩
    · exact .inl e
    · rw [endS_wv] at hk
      by_cases c : o = s
      · rw [if_pos c] at hk; cases hk
      · rw [if_neg c] at hk; exact .inr (.inl ⟨o, ho4, hk⟩)
    · rw [(endS_ws X s).1] at hk
      by_cases c : o = s
      · rw [if_pos c] at hk; obtain ⟨_, h, _⟩ := hk; simp at h
      · rw [if_neg c] at hk; exact .inr (.inr ⟨o, ho4, hk⟩)
/-- What Commit leaves. -/
inductive CxP (q : Gnd) (w : World) (g x : Nat) (X : Xs) (S : Vu) (D : Db) (s : Int) (e : Ending) (w' : World) : Prop where
  | no (z : Int) (he : e = .returned (.int .i64 z)) (hz : inTx X s = z) (h0 : z ≠ 0) (hx : XR q w' g x X false S) (ho : Only (fun _ => False) w w')
  | idle (n : Nat) (hs : s = n) (hn : n < 4) (he : e = .returned (.int .i64 0)) (hz : inTx X s = 0) (hw : X.ws n = []) (hx : XR q w' g x (X.endS n) false S) (ho : Only (fun k => k = g) w w')
  | ok (n : Nat) (hs : s = n) (hn : n < 4) (he : e = .returned (.int .i64 0)) (hz : inTx X s = 0) (rs : List (Nat × ByteArray)) (com : List ByteArray) (wa wb : World) (S' : Vu) (T' : List (Tb × Hd)) (hx : XR (q.done rs com wa wb) w' g x (X.endS n) false S') (hla : Lay S' T') (hd : dbOf T' = seeD (X.ws n) D) (hc : ComF com S') (hi : CutInv q.blk rs q.com com) (hw : w.heap.size ≤ wa.heap.size) (ho : Only (fun k => q.D k ∨ k = g) w w')
set_option maxRecDepth 100000 in
set_option maxHeartbeats 4000000 in
theorem xcommit_any (H : XR q w g x X false S) (L : Lay S T) (hrc : q.recs.length ≤ 300) (ok : XOk X (dbOf T)) (s : Int) : Calls Tryz.prog 107 #[.pointer (some ⟨g, 0, none⟩), .int .i64 s] w (CxP q w g x X S (dbOf T) s) := by
  have C1 := xinTxn_any H.xm.has s
  by_cases h0 : inTx X s = 0
  · obtain ⟨n, rfl, hn, _⟩ := in_good h0
    rw [h0] at C1
    have C1 := hide C1
    have n4 : (n : Int) < 4 := by omega
    have cw := H.xm.has.wset hn
    have gl := H.xm.has.lt
    obtain ⟨m, hm⟩ : ∃ m, (X.ws n).length = m := ⟨_, rfl⟩
    obtain ⟨wa, wc, hwv⟩ := (H.xm.ws n hn).shape
    rw [hm] at hwv
    rw [hwv] at cw
    have hm48 : m ≤ 48 := by rw [← hm]; exact (ok.ws n hn).short ok.db
    by_cases hm0 : m = 0
    · subst hm0
      have hw0 : X.ws n = [] := List.eq_nil_of_length_eq_zero hm
      have C2 := hide (xend_any H.xm hn)
      have HX := hide H
      have HW := hide (And.intro h0 hw0)
      clear H L ok h0 hm hwv hw0
      go_enter Tryz.func107, Tryz.ntmps107
      go_wp2_with fail
      refine (unhide C1).mono ?_
      rintro e w1 ⟨rfl, rfl⟩
      clear C1
      go_wp2_with fail
      refine (unhide C2).mono ?_
      rintro e w2 ⟨rfl, hM, o2⟩
      have FF := hide (show CxP q w g x X S (dbOf T) n (.returned (.int .i64 0)) w2 from .idle n rfl hn rfl (unhide HW).1 (unhide HW).2 ((unhide HX).ends hM o2) o2)
      clear C2 hM o2
      go_wp2_with fail
      go_ret
      exact unhide FF
    · have C2 := hide (xbracket_any H)
      have m0 : decide ((m : Int) > 0) = true := decide_eq_true (by omega)
      have m0' : decide ((0 : Int) < (m : Int)) = true := decide_eq_true (by omega)
      have m1 : (0 : Int) < (m : Int) := by omega
      have HW := hide h0
      have HOk := hide ok
      clear H ok h0 hm hwv
      go_enter Tryz.func107, Tryz.ntmps107
      go_wp2_with fail
      refine (unhide C1).mono ?_
      rintro e w1 ⟨rfl, rfl⟩
      clear C1
      go_wp2_with fail
      refine (unhide C2).mono ?_
      rintro e w2 ⟨rfl, hx2, o2⟩
      have C3 := hide (xapply_any hx2 L rfl (unhide HOk).db hn ((unhide HOk).ws n hn))
      have HO2 := hide o2
      clear C2 hx2 o2 cw
      go_wp2_with fail
      refine (unhide C3).mono ?_
      rintro e w3 ⟨rfl, S3, T3, hx3, la3, hd3, o3⟩
      have C4 := hide (xseal_ok hx3 hrc)
      have HO3 := hide ((unhide HO2).trans o3 (fun _ _ h => h))
      have HL := hide (And.intro la3 hd3)
      clear C3 hx3 la3 hd3 o3
      go_wp2_with fail
      refine (unhide C4).mono ?_
      rintro e w4 ⟨rfl, rs, com, hx4, cf, ci, o4⟩
      have C5 := hide (xend_any hx4.xm hn)
      have HX4 := hide hx4
      have HR := hide (And.intro cf ci)
      have HO4 := hide (((unhide HO3).mono (T := q.D) (fun k _ h => Gnd.S_D h)).trans o4 (fun _ _ h => h))
      clear C4 hx4 cf ci o4
      go_wp2_with fail
      refine (unhide C5).mono ?_
      rintro e w5 ⟨rfl, hM, o5⟩
      have FF := hide (show CxP q w g x X S (dbOf T) n (.returned (.int .i64 0)) w5 from .ok n rfl hn rfl (unhide HW) rs com w3 w4 S3 T3 ((unhide HX4).ends hM o5) (unhide HL).1 (unhide HL).2 (unhide HR).1 (unhide HR).2 (unhide HO3).size (((unhide HO4).mono (T := fun k => q.D k ∨ k = g) (fun _ _ h => .inl h)).trans (o5.mono (T := fun k => q.D k ∨ k = g) (fun _ _ h => .inr h)) (fun _ _ h => h)))
      clear C5 hM o5
      go_wp2_with fail
      go_ret
      exact unhide FF
  · obtain ⟨z, hz⟩ : ∃ z, inTx X s = z := ⟨_, rfl⟩
    rw [hz] at C1 h0
    have C1 := hide C1
    have e0 : (z == 0) = false := ne_intO h0
    have FF := hide (show CxP q w g x X S (dbOf T) s (.returned (.int .i64 z)) w from .no z rfl hz h0 H (Only.refl _ w))
    clear H L ok hz h0
    go_enter Tryz.func107, Tryz.ntmps107
    go_wp2_with fail
    refine (unhide C1).mono ?_
    rintro e w1 ⟨rfl, rfl⟩
    clear C1
    go_wp2_with fail
    go_ret
    exact unhide FF
end
end Go.Proofs.Qxb6500412aGreat
