/-
  OWN WORK. QUERY: the manager's calls as Exec uses them.
-/
import Derived.Test.Qxb6500412aGreatS40
namespace Go.Proofs.Qxb6500412aGreat
open Go.RowKit Go.PlainAid
set_option linter.unusedSimpArgs false
set_option linter.unusedVariables false

/-- A call of the manager that answers an Errno. -/
def BcP (L : Prop) (q : Gnd) (w : World) (g x : Nat) (M : Mu) (K : Nat → Prop) (R : Mu × Rs) (e : Ending) (w' : World) : Prop :=
  e = .returned (.int .i64 R.2.e) ∧ ((Rp q w g x R.1 K w' ∧ R.1.com = M.com) ∨ ((R.2.e = 0 ∧ L) ∧ Rc q w g x R.1 K w'))
/-- What it leaves of the engine. -/
def EnP (L : Prop) (q : Gnd) (w : World) (k g x : Nat) (M : Mu) (K : Nat → Prop) (R : Mu × Rs) (pln : Int) (w' : World) : Prop :=
  ∃ q' K', QR q' w' k g x R.1 K' pln ∧ (∀ b, K' b → K b ∨ w.heap.size ≤ b) ∧ (∀ b, Apa q x k K b → b < w.heap.size → Apa q' x k K' b) ∧
    ((q' = q ∧ R.1.com = M.com ∧ Only (fun b => q.S b ∨ K b) w w') ∨ ∃ rs com wa wb, q' = q.done rs com wa wb ∧ (R.2.e = 0 ∧ L) ∧ w.heap.size ≤ wa.heap.size ∧ CutInv q.blk rs q.com com ∧ Only (fun b => q.A b ∨ K b) w w')
noncomputable def beQ (M : Mu) (s : Int) : Mu × Rs := if M.act s.toNat = true then (M, Rs.err 3) else (M.begin s.toNat, Rs.err 0)
noncomputable def coQ (M : Mu) (s : Int) : Mu × Rs := if M.act s.toNat = true then (M.commit s.toNat, Rs.err 0) else (M, Rs.err 2)
noncomputable def roQ (M : Mu) (s : Int) : Mu × Rs := if M.act s.toNat = true then (M.roll s.toNat, Rs.err 0) else (M, Rs.err 2)
section
variable {L : Prop} {q : Gnd} {w w' : World} {k g x : Nat} {M : Mu} {K : Nat → Prop} {last : Int} {s : Int} {R : Mu × Rs} {e : Ending}
theorem BcP.en (Q : QR q w k g x M K last) (h : BcP L q w g x M K R e w') : EnP L q w k g x M K R last w' := by
  have hl := Q.lts
  rcases h.2 with ⟨⟨K', r, hk', o⟩, hc⟩ | ⟨he, rs, com, wa, wb, K', r, hw, hi, hk', o⟩
  · exact ⟨q, K', Q.turn r o Q.kSK hk', hk', fun b ha hb => ha.next hk' hb, .inl ⟨rfl, hc, o⟩⟩
  · refine ⟨q.done rs com wa wb, K', ⟨r, Q.has.keep o (fun c => c.elim Q.off.1 Q.off.2.2), fun c => ?_, Q.off.2.1, fun c => (hk' k c).elim Q.off.2.2 (fun c => by omega)⟩, hk', fun b ha hb => ⟨fun c => ?_, ha.2.1, fun c => (hk' b c).elim ha.2.2.1 (fun c => by omega), ha.2.2.2⟩, .inr ⟨rs, com, wa, wb, rfl, he, hw, hi, o⟩⟩
    · exact (Gnd.done_A c).elim Q.off.1 (fun c => by omega)
    · exact (Gnd.done_A c).elim ha.1 (fun c => by omega)
theorem qbegin_any (R : RX q w g x M K) (gd : gdS s) : Calls Tryz.prog 106 #[.pointer (some ⟨g, 0, none⟩), .int .i64 s] w (BcP L q w g x M K (beQ M s)) :=
  (rbegin_any R s).mono (by
    intro e w1 h
    unfold beQ
    rcases h with ⟨z, rfl, hz, hc, hR⟩ | ⟨rfl, _, ha, hR⟩
    · rcases hc with ⟨c, _⟩ | ⟨_, ha, rfl⟩
      · exact absurd gd c
      · rw [if_pos ha]
        exact ⟨rfl, .inl ⟨hR, rfl⟩⟩
    · rw [if_neg (by rw [ha]; decide)]
      exact ⟨rfl, .inl ⟨hR, rfl⟩⟩)
theorem inT_val (gd : gdS s) : M.inT s = if M.act s.toNat = true then 0 else 2 := by
  unfold Mu.inT
  rw [if_pos gd]
theorem qcommit_any (R : RX q w g x M K) (hrc : q.recs.length ≤ 300) (gd : gdS s) (hL : L) : Calls Tryz.prog 107 #[.pointer (some ⟨g, 0, none⟩), .int .i64 s] w (BcP L q w g x M K (coQ M s)) :=
  (rcommit_any R hrc s).mono (by
    intro e w1 h
    unfold coQ
    rcases h with ⟨z, rfl, hz, hc, hR⟩ | ⟨rfl, h0, hR⟩
    · rw [inT_val gd] at hc
      by_cases ha : M.act s.toNat = true
      · rw [if_pos ha] at hc; exact absurd hc hz
      · rw [if_neg ha] at hc ⊢
        rw [hc]
        exact ⟨rfl, .inl ⟨hR, rfl⟩⟩
    · rw [inT_val gd] at h0
      by_cases ha : M.act s.toNat = true
      · rw [if_pos ha]
        rcases hR with ⟨hR, hc⟩ | hR
        · exact ⟨rfl, .inl ⟨hR, hc⟩⟩
        · exact ⟨rfl, .inr ⟨⟨rfl, hL⟩, hR⟩⟩
      · rw [if_neg ha] at h0; cases h0)
theorem qroll_any (R : RX q w g x M K) (gd : gdS s) : Calls Tryz.prog 108 #[.pointer (some ⟨g, 0, none⟩), .int .i64 s] w (BcP L q w g x M K (roQ M s)) :=
  (rroll_any R s).mono (by
    intro e w1 h
    unfold roQ
    rcases h with ⟨z, rfl, hz, hc, hR⟩ | ⟨rfl, h0, hR⟩
    · rw [inT_val gd] at hc
      by_cases ha : M.act s.toNat = true
      · rw [if_pos ha] at hc; exact absurd hc hz
      · rw [if_neg ha] at hc ⊢
        rw [hc]
        exact ⟨rfl, .inl ⟨hR, rfl⟩⟩
    · rw [inT_val gd] at h0
      by_cases ha : M.act s.toNat = true
      · rw [if_pos ha]
        exact ⟨rfl, .inl ⟨hR, rfl⟩⟩
      · rw [if_neg ha] at h0; cases h0)
theorem sch_bc {D : Db × Int} (hL : M.alE s = 0 → L) (h : (∃ z, e = .returned (.int .i64 z) ∧ z ≠ 0 ∧ (M.AlZ s z ∨ (M.AlZ s 0 ∧ z = D.2)) ∧ Rp q w g x M K w') ∨ (e = .returned (.int .i64 0) ∧ M.AlZ s 0 ∧ D.2 = 0 ∧ Rc q w g x (M.schema D.1) K w')) : BcP L q w g x M K (schQ M s D) e w' := by
  unfold schQ
  rcases h with ⟨z, rfl, hz, hc, hR⟩ | ⟨rfl, ha, h0, hR⟩
  · rcases hc with ha | ⟨ha, hd⟩
    · rw [Mu.alE_iff] at ha
      rw [if_pos (by rw [← ha]; exact hz), ← ha]
      exact ⟨rfl, .inl ⟨hR, rfl⟩⟩
    · rw [Mu.alE_iff] at ha
      rw [if_neg (fun c => c ha.symm), if_pos (by rw [← hd]; exact hz), ← hd]
      exact ⟨rfl, .inl ⟨hR, rfl⟩⟩
  · rw [Mu.alE_iff] at ha
    rw [if_neg (fun c => c ha.symm), if_neg (fun c => c h0)]
    exact ⟨rfl, .inr ⟨⟨rfl, hL ha.symm⟩, hR⟩⟩
theorem beQ_l : (beQ M s).2.cols = [] ∧ (beQ M s).2.rows = [] ∧ (beQ M s).2.n = 0 := by unfold beQ; split <;> exact ⟨rfl, rfl, rfl⟩
theorem coQ_l : (coQ M s).2.cols = [] ∧ (coQ M s).2.rows = [] ∧ (coQ M s).2.n = 0 := by unfold coQ; split <;> exact ⟨rfl, rfl, rfl⟩
theorem roQ_l : (roQ M s).2.cols = [] ∧ (roQ M s).2.rows = [] ∧ (roQ M s).2.n = 0 := by unfold roQ; split <;> exact ⟨rfl, rfl, rfl⟩
theorem schQ_l {D : Db × Int} : (schQ M s D).2.cols = [] ∧ (schQ M s D).2.rows = [] ∧ (schQ M s D).2.n = 0 := by
  unfold schQ
  split
  · exact ⟨rfl, rfl, rfl⟩
  · split <;> exact ⟨rfl, rfl, rfl⟩
/-- The end of a statement that answers an Errno alone. -/
theorem EnP.ex {H : Nat} {w0 w9 : World} {RR : Mu × Rs} (h : EnP L q w k g x M K RR last w') (o0 : Only q.S w0 w) (Q0 : QR q w0 k g x M K last) (hH : H = w0.heap.size) (hw : H < w.heap.size) (o9 : Only (fun b => b = H) w' w9) (hl : RR.2.cols = [] ∧ RR.2.rows = [] ∧ RR.2.n = 0) : ExP L q w0 k g x M K RR last (.returned (.agg #[.int .i64 RR.2.e, .int .i64 0, .slice none 0 0, .slice none 0 0])) w9 := by
  obtain ⟨q', K', hQ, hK, hA, hc⟩ := h
  have z0 := o0.size
  have ha := hA H (Q0.apn (by omega)) hw
  refine ⟨none, 0, 0, none, 0, 0, w0.heap.size, q', K', by rw [hl.2.2], RsQ.none_ hl.1 hl.2.1, fun b h1 h2 => by omega, hQ.keep o9 (fun b hb (e : b = H) => ?_), fun b hb => (hK b hb).imp id (fun h => by omega), ?_⟩
  · subst e
    rcases hb with c | c | c | c
    · exact ha.1 c
    · exact ha.2.1 c
    · exact ha.2.2.1 c
    · exact ha.2.2.2 c
  · rcases hc with ⟨rfl, hc, o⟩ | ⟨rs, com, wa, wb, rfl, he, hwa, hi, o⟩
    · refine .inl ⟨rfl, hc, ?_⟩
      exact ((o0.mono (fun _ _ e => .inl e)).trans (o.mono (T := fun b => q'.S b ∨ K b ∨ b = k) (fun b _ e => e.imp id .inl)) (fun _ _ e => e)).lateS o9 (fun b (e : b = H) => by omega)
    · refine .inr ⟨rs, com, wa, wb, rfl, he, by omega, hi, ?_⟩
      exact ((o0.mono (fun _ _ e => .inl (Gnd.S_A e))).trans (o.mono (T := fun b => q.A b ∨ K b ∨ b = k) (fun b _ e => e.imp id .inl)) (fun _ _ e => e)).lateS o9 (fun b (e : b = H) => by omega)
end
end Go.Proofs.Qxb6500412aGreat
