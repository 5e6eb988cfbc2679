/-
  OWN WORK. THE INDEX's POOL: childOf, probe.
-/
import Derived.Test.Qxb6500418aIPool
namespace Go.Proofs.Qxb6500418a
open Go.RowKit Go.PlainAid
set_option linter.unusedSimpArgs false
set_option linter.unusedVariables false

def Fo.sibs : Fo → Nat
  | .nil => 0
  | .file c n d m r => r.sibs + 1
  | .dir c n k r => r.sibs + 1
theorem sibs_ids (F : Fo) : F.sibs ≤ F.ids.length := by
  induction F with
  | nil => exact Nat.le_refl _
  | file c n d m r ih => simp [Fo.sibs, Fo.ids]; omega
  | dir c n k r ihk ih => simp [Fo.sibs, Fo.ids]; omega
def idOf : Hit → Nat
  | .none => 0
  | .file c _ _ => c
  | .dir c _ => c

section
variable {w : World} {x : Nat} {P : Nat → Nd} {fr fi : Nat}
set_option maxRecDepth 100000 in
set_option maxHeartbeats 1000000 in
theorem childOf_any (h : IAt w x P fr fi) (d : Nat) (hd : d < 49) (K : Fo) (hl : Lay P K (P d).child) (hs : K.sibs ≤ 48) (n : Str) :
    Calls Try.prog 56 #[.pointer (some ⟨x, 0, none⟩), .int .i64 d, .string (st n)] w fun e w' => e = .returned (.int .i64 (idOf (K.hit n) : Nat)) ∧ w = w' := by
  have c1 := h.ch d hd
  have d1 : (d : Int) < 49 := by omega
  have hxl := h.lt
  have Hl := hide hl
  have hR : ∃ R, idOf (K.hit n) = R := ⟨_, rfl⟩
  obtain ⟨R, hR⟩ := hR
  rw [hR]
  have HR := hide hR
  clear hl hR
  generalize hp0 : (P d).child = p0 at *
  clear hp0
  go_enter Try.func56, Try.ntmps56
  go_wp2_with fail
  go_loop [7, 8] (fun cv nv => ∃ (i p : Nat) (G : Fo), cv = .int .i64 p ∧ nv = .int .i64 i ∧ Lay P G p ∧ i + G.sibs ≤ 48 ∧ R = idOf (G.hit n)) (fun _ nv => (49 - intOf nv).toNat)
  case atStart => exact ⟨0, p0, K, rfl, rfl, unhide Hl, by omega, (unhide HR).symm⟩
  case round =>
    clear Hl HR c1
    obtain ⟨i, p, G, rfl, rfl, hG, hi, hRG⟩ := hrel
    have a1 : decide ((i : Int) < 49) = true := by simp; omega
    cases G with
    | nil =>
      obtain rfl : p = 0 := hG
      have HRG := hide hRG
      clear hRG
      go_wp2_with fail
      go_ret
      rw [unhide HRG]
      exact ⟨rfl, rfl⟩
    | file c' n' d' m' r =>
      obtain ⟨rfl, h2, h3, h4⟩ := hG
      have b0 := h.nm p h2.2
      have b2 := h.nx p h2.2
      have hnm : (P p).name = n' := by rw [h3]
      rw [hnm] at b0
      have p1 : (p : Int) < 49 := by omega
      have p2 : ((p : Int) != 0) = true := by simp; omega
      have H4 := hide h4
      generalize (P p).next = q at *
      simp only [Fo.sibs] at hi
      by_cases e : n' = n
      · have hr2 : R = p := by rw [hRG]; simp [Fo.hit, e, idOf]
        have HR2 := hide hr2
        rw [e] at b0
        have e1 : (n == n) = true := by simp
        clear hRG hr2 h3 h4 hnm e
        go_wp2_with fail
        go_ret
        rw [unhide HR2]
        exact ⟨rfl, rfl⟩
      · have hr2 : R = idOf (r.hit n) := by rw [hRG]; simp [Fo.hit, e]
        have HR2 := hide hr2
        have e1 : (n' == n) = false := by simpa using e
        clear hRG hr2 h3 h4 hnm
        go_wp2_with fail
        go_round
        case rel => exact ⟨i + 1, q, r, rfl, by go_num, unhide H4, by omega, unhide HR2⟩
        case measure => simp [intOf]; omega
    | dir c' n' k' r =>
      obtain ⟨rfl, h2, h3, _, h4⟩ := hG
      have b0 := h.nm p h2.2
      have b2 := h.nx p h2.2
      have hnm : (P p).name = n' := by rw [h3]
      rw [hnm] at b0
      have p1 : (p : Int) < 49 := by omega
      have p2 : ((p : Int) != 0) = true := by simp; omega
      have H4 := hide h4
      generalize (P p).next = q at *
      simp only [Fo.sibs] at hi
      by_cases e : n' = n
      · have hr2 : R = p := by rw [hRG]; simp [Fo.hit, e, idOf]
        have HR2 := hide hr2
        rw [e] at b0
        have e1 : (n == n) = true := by simp
        clear hRG hr2 h3 h4 hnm e
        go_wp2_with fail
        go_ret
        rw [unhide HR2]
        exact ⟨rfl, rfl⟩
      · have hr2 : R = idOf (r.hit n) := by rw [hRG]; simp [Fo.hit, e]
        have HR2 := hide hr2
        have e1 : (n' == n) = false := by simpa using e
        clear hRG hr2 h3 h4 hnm
        go_wp2_with fail
        go_round
        case rel => exact ⟨i + 1, q, r, rfl, by go_num, unhide H4, by omega, unhide HR2⟩
        case measure => simp [intOf]; omega
end
end Go.Proofs.Qxb6500418a
