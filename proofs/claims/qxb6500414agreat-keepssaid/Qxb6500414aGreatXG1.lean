/-
  OWN WORK. THE TXN LAW, plain: what the ghost holds against the state, op by op. No program in sight.
-/
import Derived.Test.Qxb6500414aGreatXG0
namespace Go.Proofs.Qxb6500414aGreat
open Go.RowKit Go.PlainAid
set_option linter.unusedSimpArgs false
set_option linter.unusedVariables false

section
variable {M M' : Mu} {n : Nat} {L : List Rq} {bb cc kd : Int} {s t : ByteArray} {an : An}
theorem tkz_none {mode z : Int} (hn : n < 4) (h : M.TkZ (n : Int) s mode z) (h0 : z ≠ 0) (h2 : z ≠ 2) (h21 : z ≠ 21) : z = 10 ∧ findD M.com s = none := by
  rcases h with ⟨h1, rfl⟩ | ⟨_, h1, rfl⟩ | ⟨_, _, _, rfl⟩ | ⟨_, _, _, rfl⟩
  · exfalso
    unfold Mu.inT at h2 h1
    rw [if_pos (show gdS ((n : Nat) : Int) from ⟨by omega, by omega⟩)] at h2 h1
    split at h1
    · exact h1 rfl
    · rename_i c
      rw [if_neg c] at h2
      exact h2 rfl
  · exact ⟨rfl, h1⟩
  · exact absurd rfl h21
  · exact absurd rfl h0
theorem tkz_some {mode : Int} (h : M.TkZ (n : Int) s mode 0) : findD M.com s ≠ none := by
  rcases h with ⟨h1, h2⟩ | ⟨_, h1, h2⟩ | ⟨_, _, _, h2⟩ | ⟨_, h1, _, _⟩
  · exact absurd h2.symm h1
  · cases h2
  · cases h2
  · exact h1
/-- A recorded op. -/
theorem RpI.op (h : RpI M n L) (ok : MuOk M) (hn : n < 4) (hop : MuOp M (n : Int) bb cc s t kd M' an) (hk : 7 ≤ kd ∧ kd ≤ 11) (h2 : an.e ≠ 2) (h21 : an.e ≠ 21) : RpI M' n (L ++ [⟨kd, n, bb, cc, s, t, an⟩]) := by
  have e : ((n : Nat) : Int).toNat = n := by omega
  cases hop with
  | ins _ _ h1 =>
    rcases h1 with ⟨z, h0, hz, rfl, rfl⟩ | ⟨hz, rfl, rfl⟩
    · obtain ⟨rfl, hf⟩ := tkz_none hn hz h0 h2 h21
      exact h.none ok hn hf (fun D hD => by show ((insD D s (rowP t)).1, anE (insD D s (rowP t)).2) = _; unfold insD onT; rw [hD])
    · rw [e]
      exact h.write ok hn (f := fun u => insR u (rowP t)) (fun u => insR_nm u _) (tkz_some hz) (fun D => rfl) rfl
  | upd _ _ h1 =>
    rcases h1 with ⟨z, h0, hz, rfl, rfl⟩ | ⟨hz, rfl, rfl⟩
    · obtain ⟨rfl, hf⟩ := tkz_none hn hz h0 h2 h21
      exact h.none ok hn hf (fun D hD => by show ((updD D s (rowP t)).1, anE (updD D s (rowP t)).2) = _; unfold updD onT; rw [hD])
    · rw [e]
      exact h.write ok hn (f := fun u => updR u (rowP t)) (fun u => updR_nm u _) (tkz_some hz) (fun D => rfl) rfl
  | del _ _ h1 =>
    rcases h1 with ⟨z, h0, hz, rfl, rfl⟩ | ⟨hz, rfl, rfl⟩
    · obtain ⟨rfl, hf⟩ := tkz_none hn hz h0 h2 h21
      exact h.none ok hn hf (fun D hD => by show ((delD D s (fstP t)).1, anE (delD D s (fstP t)).2) = _; unfold delD onT; rw [hD])
    · rw [e]
      exact h.write ok hn (f := fun u => delR u (fstP t)) (fun u => delR_nm u _) (tkz_some hz) (fun D => rfl) rfl
  | lkN z h0 hz =>
    obtain ⟨rfl, hf⟩ := tkz_none hn hz h0 h2 h21
    exact h.none ok hn hf (fun D hD => by
      show (D, _) = _
      unfold lkpD
      rw [hD]
      rfl)
  | lkY hz =>
    rw [e]
    exact h.read ok hn (fun D => rfl) (fun D hD => by
      show ({ An.z with e := (lkpD D s (fstP t)).2, row := (lkpD D s (fstP t)).1 } : An) = _
      have : lkpD D s (fstP t) = lkpD (M.see n) s (fstP t) := by unfold lkpD; rw [hD]
      rw [this])
  | scN z h0 hz =>
    obtain ⟨rfl, hf⟩ := tkz_none hn hz h0 h2 h21
    exact h.none ok hn hf (fun D hD => by
      show (D, _) = _
      unfold scnD
      rw [hD]
      rfl)
  | scY hz =>
    rw [e]
    exact h.read ok hn (fun D => rfl) (fun D hD => by
      show ({ An.z with e := (scnD D s bb (bndOf (bits BinOp.and IntKind.i64 cc 1 != 0) (fstP t)) (bndOf (bits BinOp.and IntKind.i64 cc 2 != 0) (sndP t))).2, rows := (scnD D s bb (bndOf (bits BinOp.and IntKind.i64 cc 1 != 0) (fstP t)) (bndOf (bits BinOp.and IntKind.i64 cc 2 != 0) (sndP t))).1 } : An) = _
      have : scnD D s bb (bndOf (bits BinOp.and IntKind.i64 cc 1 != 0) (fstP t)) (bndOf (bits BinOp.and IntKind.i64 cc 2 != 0) (sndP t)) = scnD (M.see n) s bb (bndOf (bits BinOp.and IntKind.i64 cc 1 != 0) (fstP t)) (bndOf (bits BinOp.and IntKind.i64 cc 2 != 0) (sndP t)) := by unfold scnD; rw [hD]
      rw [this])
  | oth _ h => omega
  | _ => omega
/-- Nothing turns for the other sessions. -/
structure Oth (M M' : Mu) (n : Nat) : Prop where
  com : M'.com = M.com
  act : ∀ s, s ≠ n → M'.act s = M.act s
  lk : ∀ s nm, s ≠ n → M'.lk s nm = M.lk s nm
  see : ∀ s, s ≠ n → M'.see s = M.see s
theorem Oth.refl (M : Mu) (n : Nat) : Oth M M n := ⟨rfl, fun _ _ => rfl, fun _ _ _ => rfl, fun _ _ => rfl⟩
theorem Oth.setL (M : Mu) (n : Nat) (nm : ByteArray) (mode : Int) : Oth M (M.setL n nm mode) n := ⟨rfl, fun _ _ => rfl, fun s m h => by show (if s = n ∧ _ then _ else _) = _; rw [if_neg (fun x => h x.1)], fun _ _ => rfl⟩
theorem Oth.setV (M : Mu) (n : Nat) (nm : ByteArray) (mode : Int) (D : Db) : Oth M ((M.setL n nm mode).setV n D) n := ⟨rfl, fun _ _ => rfl, (Oth.setL M n nm mode).lk, fun s h => by show (if s = n then _ else _) = _; rw [if_neg h]; rfl⟩
/-- A data op: the others stay; who is in a transaction stays; an answer 2 or 21 left all as it was. -/
theorem MuOp.data (hn : n < 4) (hop : MuOp M (n : Int) bb cc s t kd M' an) (hk : 7 ≤ kd ∧ kd ≤ 11) : Oth M M' n ∧ M'.act = M.act := by
  have e : ((n : Nat) : Int).toNat = n := by omega
  cases hop with
  | ins _ _ h1 =>
    rcases h1 with ⟨z, h0, hz, rfl, rfl⟩ | ⟨hz, rfl, rfl⟩
    · exact ⟨Oth.refl _ _, rfl⟩
    · rw [e]; exact ⟨Oth.setV _ _ _ _ _, rfl⟩
  | upd _ _ h1 =>
    rcases h1 with ⟨z, h0, hz, rfl, rfl⟩ | ⟨hz, rfl, rfl⟩
    · exact ⟨Oth.refl _ _, rfl⟩
    · rw [e]; exact ⟨Oth.setV _ _ _ _ _, rfl⟩
  | del _ _ h1 =>
    rcases h1 with ⟨z, h0, hz, rfl, rfl⟩ | ⟨hz, rfl, rfl⟩
    · exact ⟨Oth.refl _ _, rfl⟩
    · rw [e]; exact ⟨Oth.setV _ _ _ _ _, rfl⟩
  | lkN z h0 hz => exact ⟨Oth.refl _ _, rfl⟩
  | lkY hz => rw [e]; exact ⟨Oth.setL _ _ _ _, rfl⟩
  | scN z h0 hz => exact ⟨Oth.refl _ _, rfl⟩
  | scY hz => rw [e]; exact ⟨Oth.setL _ _ _ _, rfl⟩
  | oth _ h => omega
  | _ => omega
end
/-- The ghost against the state. -/
def SerI (M : Mu) (m : GhM) (sh : Db) : Prop := sh = M.com ∧ ∀ s, s < 4 → M.act s = true → m.ov s = false → RpI M s ((m.ls s).map (·.r))
section
variable {M M' : Mu} {m m' : GhM} {sh : Db} {n : Nat} {bb cc kd : Int} {s t : ByteArray} {an : An}
/-- A session's own list and mark turned; for the others nothing did. -/
theorem SerI.own (h : SerI M m sh) (o : Oth M M' n) (hl : ∀ r, r ≠ n → m'.ls r = m.ls r) (hv : ∀ r, r ≠ n → m'.ov r = m.ov r) (hn : M'.act n = true → m'.ov n = false → RpI M' n ((m'.ls n).map (·.r))) : SerI M' m' sh := by
  refine ⟨by rw [h.1, o.com], fun r hr ha hov => ?_⟩
  by_cases c : r = n
  · subst c
    exact hn ha hov
  · rw [hl r c]
    rw [o.act r c] at ha
    rw [hv r c] at hov
    exact (h.2 r hr ha hov).other o.com (o.lk r · c) (o.see r c)
theorem SerI.begin (h : SerI M m sh) (ok : MuOk M) (hn : n < 4) (ha : M.act n = false) : SerI (M.begin n) ((m.setL n (.slice none 0 0) []).setO n false) sh := by
  refine h.own (n := n) ⟨rfl, fun s hs => by show (if s = n then true else M.act s) = _; rw [if_neg hs], fun _ _ _ => rfl, fun _ _ => rfl⟩ (fun r hr => by show (if r = n then [] else m.ls r) = _; rw [if_neg hr]) (fun r hr => by show (if r = n then false else m.ov r) = _; rw [if_neg hr]) (fun _ _ => ?_)
  have e : ((m.setL n (.slice none 0 0) []).setO n false).ls n = [] := by show (if n = n then [] else m.ls n) = _; rw [if_pos rfl]
  rw [e]
  exact RpI.nil (fun nm => by show M.lk n nm ≠ 2; rw [ok.idle n nm hn ha]; omega)
theorem SerI.roll (h : SerI M m sh) : SerI (M.roll n) ((m.setL n (.slice none 0 0) []).setO n false) sh := by
  refine h.own (n := n) ⟨rfl, fun s hs => by show (if s = n then false else M.act s) = _; rw [if_neg hs], fun s nm hs => by show (if s = n then 0 else M.lk s nm) = _; rw [if_neg hs], fun s hs => by show (if s = n then M.com else M.see s) = _; rw [if_neg hs]⟩ (fun r hr => by show (if r = n then [] else m.ls r) = _; rw [if_neg hr]) (fun r hr => by show (if r = n then false else m.ov r) = _; rw [if_neg hr]) (fun h1 _ => ?_)
  have : (M.roll n).act n = false := by show (if n = n then false else M.act n) = _; rw [if_pos rfl]
  rw [this] at h1
  cases h1
theorem SerI.commit (h : SerI M m sh) (ok : MuOk M) (hn : n < 4) (hl : ∀ r, r ≠ n → m'.ls r = m.ls r) (hv : ∀ r, r ≠ n → m'.ov r = m.ov r) : SerI (M.commit n) m' (M.commit n).com := by
  refine ⟨rfl, fun r hr ha hov => ?_⟩
  by_cases c : r = n
  · subst c
    have : (M.commit r).act r = false := by show (if r = r then false else M.act r) = _; rw [if_pos rfl]
    rw [this] at ha
    cases ha
  · rw [hl r c]
    rw [hv r c] at hov
    have ha2 : M.act r = true := by
      have : (M.commit n).act r = M.act r := by show (if r = n then false else M.act r) = _; rw [if_neg c]
      rw [← this]; exact ha
    exact (h.2 r hr ha2 hov).commitO ok hr hn c
/-- The list, played at a Commit. -/
theorem SerI.play (h : SerI M m sh) (ok : MuOk M) (hn : n < 4) (ha : M.act n = true) (hov : m.ov n = false) : rok ((m.ls n).map (·.r)) sh ∧ rend ((m.ls n).map (·.r)) sh = (M.commit n).com := by
  rw [h.1]
  exact (h.2 n hn ha hov).commit ok hn
theorem SerI.schema (h : SerI M m sh) (hn : ¬ M.any) (D : Db) : SerI (M.schema D) m D :=
  ⟨rfl, fun r hr ha _ => absurd ⟨r, hr, ha⟩ hn⟩
theorem SerI.same (h : SerI M m sh) : SerI M m sh := h
end
end Go.Proofs.Qxb6500414aGreat
