/-
  OWN WORK. THE B-TREE LAW: Bracketed.
-/
import Derived.Test.Qxb6500410aGreatBKg
namespace Go.Proofs.Qxb6500410aGreat
open Go.RowKit Go.PlainAid
set_option linter.unusedSimpArgs false
set_option linter.unusedVariables false

section
variable {lo : Nat} {w w' : World} {kb : Nat} {q : Gnd} {op : Bool} {S C P : Vu} {n b v : Gho} {N : Int}
theorem keepC_op (d p f n b v : Nat) (op op' : Bool) (N : Int) : (keepC d p f n b v op N).setIfInBounds 6 (.bool op') = keepC d p f n b v op' N := rfl
theorem keepC_n (d p f n b v n' : Nat) (op : Bool) (N : Int) : (keepC d p f n b v op N).setIfInBounds 3 (.pointer (some ⟨n', 0, none⟩)) = keepC d p f n' b v op N := rfl
theorem keepC_b (d p f n b v b' : Nat) (op : Bool) (N : Int) : (keepC d p f n b v op N).setIfInBounds 4 (.pointer (some ⟨b', 0, none⟩)) = keepC d p f n b' v op N := rfl
/-- The keeper's own cell. -/
theorem KK.own (h : KK lo w kb q op C P n b v N) (i : Nat) (u : Value) : Only (fun k => k = kb) w (w.setCell ⟨kb, i, none⟩ u) ∧ n.At (w.setCell ⟨kb, i, none⟩ u) ∧ b.At (w.setCell ⟨kb, i, none⟩ u) ∧ v.At (w.setCell ⟨kb, i, none⟩ u) := by
  have ho : Only (fun k => k = kb) w (w.setCell ⟨kb, i, none⟩ u) := (Only.refl (fun k => k = kb) w).more i u
  exact ⟨ho, GhAt.keep h.gn ho (fun k hk => (h.dn k hk).2.1), GhAt.keep h.gb ho (fun k hk => (h.db k hk).2.1), GhAt.keep h.gv ho (fun k hk => (h.dv k hk).2.1)⟩
theorem KK.flag (h : KK lo w kb q op C P n b v N) (op' : Bool) : KK lo (w.setCell ⟨kb, 6, none⟩ (.bool op')) kb q op' C P n b v N ∧ Only (fun k => k = kb) w (w.setCell ⟨kb, 6, none⟩ (.bool op')) := by
  obtain ⟨ho, a1, a2, a3⟩ := h.own 6 (.bool op')
  exact ⟨⟨h.kp.setCell 6 _, a1, a2, a3, h.rb, h.rv, h.dn, h.db, h.dv, h.dk, h.dq⟩, ho⟩
/-- What stands in another's way when it is new. -/
theorem KK.fresh (h : KK lo w kb q op C P n b v N) (hq : ∀ k, q.A k → k < w.heap.size) {k : Nat} (hk : w.heap.size ≤ k) : ¬ q.A k ∧ k ≠ kb ∧ ¬ n.F k ∧ ¬ b.F k ∧ ¬ v.F k ∧ lo ≤ k := by
  refine ⟨fun c => ?_, fun c => ?_, fun c => ?_, fun c => ?_, fun c => ?_, ?_⟩
  · have := hq k c; omega
  · have := h.kp.lt; omega
  · have := GhAt.lt h.gn k c; omega
  · have := GhAt.lt h.gb k c; omega
  · have := GhAt.lt h.gv k c; omega
  · have := h.kp.lt; have := h.dk.2; omega
/-- The ghost Now becomes a copy. -/
theorem KK.putN {w0 : World} (h : KK lo w0 kb q op C P n b v N) (hq : ∀ k, q.A k → k < w0.heap.size) (o : Only (fun _ => False) w0 w) {n' : Gho} (G : n'.At w) (hn' : ∀ k, n'.F k → w0.heap.size ≤ k) : KK lo (w.setCell ⟨kb, 3, none⟩ (.pointer (some ⟨n'.g, 0, none⟩))) kb q op C P n' b v N ∧ Only (fun k => k = kb) w (w.setCell ⟨kb, 3, none⟩ (.pointer (some ⟨n'.g, 0, none⟩))) := by
  have h1 := h.quiet o
  obtain ⟨ho, a1, a2, a3⟩ := h1.own 3 (.pointer (some ⟨n'.g, 0, none⟩))
  refine ⟨⟨h1.kp.setCell 3 _, GhAt.keep G ho (fun k hk => (h.fresh hq (hn' k hk)).2.1), a2, a3, h.rb, h.rv, fun k hk => ?_, h.db, h.dv, h.dk, h.dq⟩, ho⟩
  obtain ⟨x1, x2, x3, x4, x5, x6⟩ := h.fresh hq (hn' k hk)
  exact ⟨x1, x2, x4, x5, x6⟩
/-- The ghost Base becomes a copy. -/
theorem KK.putB {w0 : World} (h : KK lo w0 kb q op C P n b v N) (hq : ∀ k, q.A k → k < w0.heap.size) (o : Only (fun _ => False) w0 w) {b' : Gho} (G : b'.At w) (hb' : ∀ k, b'.F k → w0.heap.size ≤ k) {C' : Vu} (rb : GR C' b'.T b'.its) : KK lo (w.setCell ⟨kb, 4, none⟩ (.pointer (some ⟨b'.g, 0, none⟩))) kb q op C' P n b' v N ∧ Only (fun k => k = kb) w (w.setCell ⟨kb, 4, none⟩ (.pointer (some ⟨b'.g, 0, none⟩))) := by
  have h1 := h.quiet o
  obtain ⟨ho, a1, a2, a3⟩ := h1.own 4 (.pointer (some ⟨b'.g, 0, none⟩))
  refine ⟨⟨h1.kp.setCell 4 _, a1, GhAt.keep G ho (fun k hk => (h.fresh hq (hb' k hk)).2.1), a3, rb, h.rv, fun k hk => ?_, fun k hk => ?_, h.dv, h.dk, h.dq⟩, ho⟩
  · obtain ⟨x1, x2, x3, x4, x5⟩ := h.dn k hk
    exact ⟨x1, x2, fun c => (h.fresh hq (hb' k c)).2.2.1 hk, x4, x5⟩
  · obtain ⟨x1, x2, x3, x4, x5, x6⟩ := h.fresh hq (hb' k hk)
    exact ⟨x1, x2, x6⟩
theorem KK.fvO (h : KK lo w kb q op C P n b v N) {op2 : Bool} (A : FV q w op2 S) (ho : Only (fun k => k = kb) w w') : FV q w' op2 S := h.fvK A ho (fun k hk e => h.dk.1 (by rw [← e]; exact hk))
theorem KK.oK (h : KK lo w kb q op C P n b v N) {w0 w1 w2 : World} (o : Only (fun k => lo ≤ k) w0 w1) (ho : Only (fun k => k = kb) w1 w2) : Only (fun k => lo ≤ k) w0 w2 := o.trans ho (fun k _ e => by rw [e]; exact h.dk.2)
set_option maxRecDepth 100000 in
set_option maxHeartbeats 4000000 in
theorem begun_any (J : KJ lo w kb q op S C P n b v N) : Calls Tryz.prog 43 #[.pointer (some ⟨kb, 0, none⟩), .int .i64 1] w fun e w' => e = .returned (.bool true) ∧ KP lo w kb q P v N w' := by
  have c2 := J.k.c2
  have c6 := J.k.c6
  cases op with
  | true =>
    have C1 := hide (vbegin_open J.fv)
    have HP := hide (J.same (Only.refl _ w))
    go_enter Tryz.func43, Tryz.ntmps43
    go_wp2_with fail
    refine (unhide C1).mono ?_
    rintro e w1 ⟨rfl, rfl⟩
    go_wp2_with fail
    go_ret
    exact ⟨by rfl, unhide HP⟩
  | false =>
    have C1 := hide (vbegin_shut J.fv)
    go_enter Tryz.func43, Tryz.ntmps43
    go_wp2_with fail
    refine (unhide C1).mono ?_
    rintro e w1 ⟨rfl, A1, o1⟩
    have K1 := J.k.forest o1
    have c6 := K1.c6
    have f6 := K1.kp.free 6
    obtain ⟨K2, o2⟩ := K1.flag true
    have HP := hide (KJ.same (q := q) ⟨K2, K1.fvO A1 o2, J.rn, fun c => (by cases c), J.cf⟩ (K1.oK (J.oS o1) o2))
    clear A1 o1 C1 K2 o2
    go_wp2_with fail
    go_ret
    exact ⟨by rfl, unhide HP⟩
set_option maxRecDepth 100000 in
set_option maxHeartbeats 4000000 in
theorem aborted_any (J : KJ lo w kb q op S C P n b v N) : Calls Tryz.prog 43 #[.pointer (some ⟨kb, 0, none⟩), .int .i64 3] w fun e w' => e = .returned (.bool true) ∧ KP lo w kb q P v N w' := by
  have c2 := J.k.c2
  have c6 := J.k.c6
  cases op with
  | false =>
    have C1 := hide (vabort_shut J.fv)
    have HP := hide (J.same (Only.refl _ w))
    go_enter Tryz.func43, Tryz.ntmps43
    go_wp2_with fail
    refine (unhide C1).mono ?_
    rintro e w1 ⟨rfl, rfl⟩
    go_wp2_with fail
    go_ret
    exact ⟨by rfl, unhide HP⟩
  | true =>
    have C1 := hide (vabort_open J.fv J.cf)
    go_enter Tryz.func43, Tryz.ntmps43
    go_wp2_with fail
    refine (unhide C1).mono ?_
    rintro e w1 ⟨rfl, A1, o1⟩
    have K1 := J.k.forest o1
    have O1 := J.oS o1
    have c6 := K1.c6
    have c4 := K1.c4
    have C2 := hide (gcopy_any K1.gb)
    clear o1 C1
    go_wp2_with fail
    refine (unhide C2).mono ?_
    rintro e w2 ⟨g', tb', iv', rfl, G2, hF2, o2⟩
    have c3 := (K1.quiet o2).c3
    have f3 := (K1.quiet o2).kp.free 3
    obtain ⟨K3, o3⟩ := K1.putN A1.Alt o2 (n' := ⟨g', tb', iv', b.T, b.its⟩) G2 hF2
    have A3 := (K1.quiet o2).fvO (A1.quiet o2) o3
    have O3 := (K1.quiet o2).oK (O1.q0 o2) o3
    have HH := hide (And.intro A3 O3)
    have HK := hide K3
    clear A3 O3 o3 G2 hF2 C2 c4 c6
    go_upto_region 19 with fail
    have K3 := unhide HK
    clear c3 f3 K3
    generalize w2.setCell ⟨kb, 3, none⟩ (.pointer (some ⟨g', 0, none⟩)) = w3 at *
    have K3 := unhide HK
    have c6 := K3.c6
    have f6 := K3.kp.free 6
    obtain ⟨K4, o4⟩ := K3.flag false
    have HP := hide (KJ.same (q := q) ⟨K4, K3.fvO (unhide HH).1 o4, J.k.rb, fun _ => rfl, J.cf⟩ (K3.oK (unhide HH).2 o4))
    clear K4 o4
    go_wp2_with fail
    go_ret
    exact ⟨by rfl, unhide HP⟩
theorem done_A {w1 : World} {rs : List (Nat × ByteArray)} {com : List ByteArray} {k : Nat} (h : (q.done rs com w w1).A k) : q.A k ∨ w.heap.size ≤ k := by
  rcases h with h | h | h | h
  · rcases h with h | h
    · exact .inl (.inl h)
    · exact .inr h.1
  · exact .inl (.inr (.inl h))
  · exact .inl (.inr (.inr (.inl h)))
  · exact .inl (.inr (.inr (.inr h)))
theorem KK.commit {w1 : World} (h : KK lo w kb q op C P n b v N) (ho : Only q.D w w1) (rs : List (Nat × ByteArray)) (com : List ByteArray) : KK lo w1 kb (q.done rs com w w1) op C P n b v N := by
  have hD : ∀ {k}, q.D k → q.A k := Gnd.D_A
  have hlt := h.kp.lt
  have x1 : ∀ k, ¬ q.A k → k < w.heap.size → ¬ (q.done rs com w w1).A k := fun k h1 h2 c => by
    rcases done_A c with c | c
    · exact h1 c
    · omega
  refine ⟨h.kp.keep ho (fun c => h.dk.1 (hD c)), GhAt.keep h.gn ho (fun k hk c => (h.dn k hk).1 (hD c)), GhAt.keep h.gb ho (fun k hk c => (h.db k hk).1 (hD c)), GhAt.keep h.gv ho (fun k hk c => (h.dv k hk).1 (hD c)), h.rb, h.rv, fun k hk => ?_, fun k hk => ?_, fun k hk => ?_, ⟨x1 kb h.dk.1 hlt, h.dk.2⟩, fun k hk => ?_⟩
  · have := h.dn k hk
    exact ⟨x1 k this.1 (GhAt.lt h.gn k hk), this.2⟩
  · have := h.db k hk
    exact ⟨x1 k this.1 (GhAt.lt h.gb k hk), this.2⟩
  · have := h.dv k hk
    exact ⟨x1 k this.1 (GhAt.lt h.gv k hk), this.2⟩
  · rcases done_A hk with c | c
    · exact h.dq k c
    · have := h.dk.2; omega
set_option maxRecDepth 100000 in
set_option maxHeartbeats 4000000 in
theorem committed_any (J : KJ lo w kb q op S C P n b v N) (hrc : q.recs.length ≤ 100) : Calls Tryz.prog 43 #[.pointer (some ⟨kb, 0, none⟩), .int .i64 2] w fun e w' => e = .returned (.bool true) ∧ KP lo w kb q P v N w' := by
  have c2 := J.k.c2
  have c6 := J.k.c6
  cases op with
  | false =>
    have C1 := hide (vcommit_shut J.fv)
    have HP := hide (J.same (Only.refl _ w))
    go_enter Tryz.func43, Tryz.ntmps43
    go_wp2_with fail
    refine (unhide C1).mono ?_
    rintro e w1 ⟨rfl, rfl⟩
    go_wp2_with fail
    go_ret
    exact ⟨by rfl, unhide HP⟩
  | true =>
    have C1 := hide (vcommit_open J.fv hrc)
    go_enter Tryz.func43, Tryz.ntmps43
    go_wp2_with fail
    refine (unhide C1).mono ?_
    rintro e w1 ⟨rfl, rs, com, A1, cf1, cut1, o1⟩
    have K1 := J.k.commit o1 rs com
    have O1 : Only (fun k => lo ≤ k) w w1 := (Only.refl _ w).trans o1 (fun k _ hk => J.k.dq k (Gnd.D_A hk))
    have hqs : QS q (q.done rs com w w1) := .inr ⟨rs, com, _, rfl, cut1⟩
    generalize hq2 : q.done rs com w w1 = q2 at *
    have cf2 : ComF q2.com S := by rw [← hq2]; exact cf1
    have c6 := K1.c6
    have c3 := K1.c3
    have C2 := hide (gcopy_any K1.gn)
    have HQ := hide (And.intro hqs cf2)
    clear o1 C1 cut1 hq2 cf1 hqs cf2
    go_wp2_with fail
    refine (unhide C2).mono ?_
    rintro e w2 ⟨g', tb', iv', rfl, G2, hF2, o2⟩
    have c4 := (K1.quiet o2).c4
    have f4 := (K1.quiet o2).kp.free 4
    obtain ⟨K3, o3⟩ := K1.putB A1.Alt o2 (b' := ⟨g', tb', iv', n.T, n.its⟩) G2 hF2 J.rn
    have A3 := (K1.quiet o2).fvO (A1.quiet o2) o3
    have O3 := (K1.quiet o2).oK (O1.q0 o2) o3
    have HH := hide (And.intro A3 O3)
    have HK := hide K3
    clear A3 O3 o3 G2 hF2 C2 c3 c6 K3
    go_upto_region 13 with fail
    clear c4 f4
    generalize w2.setCell ⟨kb, 4, none⟩ (.pointer (some ⟨g', 0, none⟩)) = w3 at *
    have K3 := unhide HK
    have c6 := K3.c6
    have f6 := K3.kp.free 6
    obtain ⟨K4, o4⟩ := K3.flag false
    have HP := hide (KJ.post (q := q2) ⟨K4, K3.fvO (unhide HH).1 o4, J.rn, fun _ => rfl, (unhide HQ).2⟩ (unhide HQ).1 (K3.oK (unhide HH).2 o4))
    clear K4 o4
    go_wp2_with fail
    go_ret
    exact ⟨by rfl, unhide HP⟩
end
end Go.Proofs.Qxb6500410aGreat
