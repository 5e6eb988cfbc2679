/-
  OWN WORK. THE TREE: Get, Commit, Put of an object that is no tree.
-/
import Derived.Test.Qxb6500417aGreatTSt
namespace Go.Proofs.Qxb6500417aGreat
open Go.RowKit Go.PlainAid
set_option linter.unusedSimpArgs false
set_option linter.unusedVariables false

/-- Bytes that a Get gave: in an array of their own, or none. -/
def GotB (w : World) (v : Value) (dat : List Nat) (w' : World) : Prop := (v = .slice none 0 0 ∧ dat = []) ∨ ∃ g, v = .slice (some ⟨g, 0, none⟩) dat.length dat.length ∧ w.heap.size ≤ g ∧ Has w' g (tabV dat.length (u8f (dF dat))) 5
def tgK (J : Nat → Sl) (id : Int) : Nat := if liveJ J id = true then (J id.toNat).kd else 0
def tgD (J : Nat → Sl) (id : Int) : List Nat := if liveJ J id = true ∧ (J id.toNat).kd ≠ 2 then (J id.toNat).dat else []
def tgE (J : Nat → Sl) (id : Int) : Nat := if liveJ J id = true then 0 else 6
section
variable {w w' : World} {t s d : Nat} {D B : Nat → Nat} {recs : List Rec} {J : Nat → Sl} {rt : Nat} {F : Nat → Prop}
set_option maxRecDepth 100000 in
theorem tget_any (h : TS w t s d D B recs J rt F) (id : Int) :
    Calls Tryz.prog 121 #[.pointer (some ⟨t, 0, none⟩), .int .i64 id] w fun e w' => ∃ v, e = .returned (.tuple #[.int .i64 (tgK J id : Nat), v, .int .i64 (tgE J id : Nat)]) ∧ GotB w v (tgD J id) w' ∧ Only (fun _ => False) w w' := by
  obtain ⟨ob, hO, hR⟩ := h.ex
  have C1 := h.live_any id
  have htl := Has.lt h.tab
  unfold tgK tgD tgE
  cases hl : liveJ J id with
  | false =>
    rw [hl] at C1
    have C1 := hide C1
    rw [if_neg (by simp), if_neg (by simp), if_neg (by simp)]
    clear h hO hR
    go_enter Tryz.func121, Tryz.ntmps121
    go_wp2_with fail
    refine (unhide C1).mono ?_
    rintro e w1 ⟨rfl, rfl⟩
    go_wp2_with fail
    go_ret3
    exact ⟨_, rfl, .inl ⟨rfl, rfl⟩, Only.refl _ _⟩
  | true =>
    rw [hl] at C1
    have C1 := hide C1
    obtain ⟨i, rfl, hi, hli⟩ := liveJ_in hl
    have i1 := hi.1
    have i48 := hi.2
    have c := (h.tab.kind i (by omega)).1
    rw [kindJ_live hi hli] at c
    have b1 : (i : Int) < 49 := by omega
    have c0 := h.tab.store.1
    rw [if_pos rfl, if_pos rfl, Int.toNat_natCast]
    by_cases h2 : (J i).kd = 2
    · rw [h2] at c
      have c' : w.cell? ⟨t, 1 + i, none⟩ = some (.int .i64 2) := c
      rw [if_neg (fun e => e.2 h2), h2]
      clear h hO hR hl hli h2 c
      go_enter Tryz.func121, Tryz.ntmps121
      go_wp2_with fail
      refine (unhide C1).mono ?_
      rintro e w1 ⟨rfl, rfl⟩
      go_wp2_with fail
      go_ret3
      exact ⟨_, rfl, .inl ⟨rfl, rfl⟩, Only.refl _ _⟩
    · have e2 : (((J i).kd : Int) == 2) = false := by simp; omega
      rw [if_pos ⟨rfl, h2⟩]
      have C2 := get_in hO i hi (by rw [hR.live hi]; exact hli) (J i).dat.length (by rw [(hR i hi).2.2])
      rw [(hR i hi).2.1, (hR i hi).2.2] at C2
      have C2 := hide C2
      generalize (J i).kd = kk at *
      generalize hdd : (J i).dat = dat at *
      clear h hO hR hl hli h2 hdd
      go_enter Tryz.func121, Tryz.ntmps121
      go_wp2_with fail
      refine (unhide C1).mono ?_
      rintro e w1 ⟨rfl, rfl⟩
      go_wp2_with fail
      refine (unhide C2).mono ?_
      rintro e w2 ⟨rfl, hh, ho⟩
      have RR := hide (And.intro hh ho)
      clear hh ho
      go_wp2_with fail
      go_ret3
      exact ⟨_, rfl, .inr ⟨_, rfl, Nat.le_refl _, (unhide RR).1⟩, (unhide RR).2⟩
def comJ (J : Nat → Sl) : Nat → Sl := fun i => comS (J i)
def abortJ (J : Nat → Sl) : Nat → Sl := fun i => abortS (J i)
theorem Rep.com {ob : Nat → Ob} {J : Nat → Sl} (h : Rep ob J) : Rep (fun i => comO (ob i)) (comJ J) := fun i hi => by
  obtain ⟨h1, h2, h3⟩ := h i hi
  show (comO (ob i)).st = (comS (J i)).st ∧ (comO (ob i)).kd = (comS (J i)).kd ∧ (comO (ob i)).dat = (comS (J i)).dat
  unfold comS comO
  rw [h1]
  split
  · exact ⟨rfl, h2, h3⟩
  · split
    · exact ⟨rfl, rfl, rfl⟩
    · exact ⟨h1, h2, h3⟩
theorem Rep.abort {ob : Nat → Ob} {J : Nat → Sl} (h : Rep ob J) : Rep (fun i => abortO (ob i)) (abortJ J) := fun i hi => by
  obtain ⟨h1, h2, h3⟩ := h i hi
  show (abortO (ob i)).st = (abortS (J i)).st ∧ (abortO (ob i)).kd = (abortS (J i)).kd ∧ (abortO (ob i)).dat = (abortS (J i)).dat
  unfold abortS abortO
  rw [h1]
  split
  · exact ⟨rfl, rfl, rfl⟩
  · split
    · exact ⟨rfl, h2, h3⟩
    · exact ⟨h1, h2, h3⟩
theorem com_live (s : Sl) : liveS (comS s) = true ↔ liveS s = true := by
  unfold comS
  by_cases h1 : s.st = 1
  · rw [if_pos h1]; simp [liveS, stS, h1]
  · rw [if_neg h1]
    by_cases h3 : s.st = 3
    · rw [if_pos h3]; simp [liveS, Sl.free, h3]
    · rw [if_neg h3]
theorem com_kept {s : Sl} (h : liveS s = true) : Kept s (comS s) := by
  unfold comS
  by_cases h1 : s.st = 1
  · rw [if_pos h1]; exact Kept.st _ _
  · rw [if_neg h1, if_neg (by rw [liveS_iff] at h; omega)]
    exact Kept.refl _
theorem kindJ_com (J : Nat → Sl) (i : Nat) : kindJ (comJ J) i = kindJ J i := by
  unfold kindJ comJ
  by_cases h : i ≠ 0 ∧ liveS (J i) = true
  · rw [if_pos h, if_pos ⟨h.1, (com_live _).2 h.2⟩, (com_kept h.2).kd]
  · rw [if_neg h, if_neg (fun e => h ⟨e.1, (com_live _).1 e.2⟩)]
theorem cntJ_com (J : Nat → Sl) (i : Nat) : ∀ n, cntJ (comJ J) i n = cntJ J i n
  | 0 => rfl
  | n + 1 => by
    unfold cntJ
    rw [cntJ_com J i n]
    congr 1
    unfold comJ
    by_cases h : n ≠ 0 ∧ liveS (J n) = true
    · rw [if_pos h, if_pos ⟨h.1, (com_live _).2 h.2⟩, (com_kept h.2).rws]
    · rw [if_neg h, if_neg (fun e => h ⟨e.1, (com_live _).1 e.2⟩)]
theorem tcommit_no (h : TS w t s d D B recs J rt F) (id : Int) (h0 : id ≠ 0) (hl : liveJ J id = false) :
    Calls Tryz.prog 120 #[.pointer (some ⟨t, 0, none⟩), .int .i64 id] w fun e w' => e = .returned (.int .i64 6) ∧ w = w' := by
  obtain ⟨ob, hO, hR⟩ := h.ex
  have hlo : liveI ob id = false := by
    by_cases hr : 1 ≤ id ∧ id ≤ 48
    · obtain ⟨i, rfl⟩ : ∃ i : Nat, id = i := ⟨id.toNat, by omega⟩
      have hi : In i := ⟨by omega, by omega⟩
      rw [liveI_nat ob i hi, hR.live hi, ← liveJ_nat hi]
      exact hl
    · exact liveI_out ob id hr
  have C := hide (commit_no hO id h0 hlo)
  have c0 := h.tab.store.1
  clear h hO hR hl hlo
  go_enter Tryz.func120, Tryz.ntmps120
  go_wp2_with fail
  refine (unhide C).mono ?_
  rintro e w1 ⟨rfl, rfl⟩
  go_wp2_with fail
  go_ret
  exact ⟨rfl, rfl⟩
theorem tcommit_in (h : TS w t s d D B recs J rt F) (r : Nat) (hr : r = 0 ∨ (In r ∧ liveS (J r) = true)) (hrl : recs.length ≤ 1000) :
    Calls Tryz.prog 120 #[.pointer (some ⟨t, 0, none⟩), .int .i64 r] w fun e w' => e = .returned (.int .i64 0) ∧ ∃ sup, TS w' t s d (putB D 0 sup) B (recs ++ [(0, sup)]) (comJ J) r (Ext F w w') ∧ Only (fun k => k = s ∨ F k) w w' := by
  obtain ⟨ob, hO, hR⟩ := h.ex
  have C := hide (commit_in hO r (by
    rcases hr with e | e
    · exact .inl e
    · exact .inr ⟨e.1, by rw [hR.live e.1]; exact e.2⟩) hrl)
  have c0 := h.tab.store.1
  have H := hide h
  have HR := hide hR
  have htl := Has.lt h.tab
  clear h hO hR hr
  go_enter Tryz.func120, Tryz.ntmps120
  go_wp2_with fail
  refine (unhide C).mono ?_
  rintro e w1 ⟨rfl, hO1, ho1⟩
  have RR := hide (And.intro hO1 ho1)
  clear hO1 ho1
  go_wp2_with fail
  go_ret
  obtain ⟨hO1, ho1⟩ := unhide RR
  have h := unhide H
  refine ⟨rfl, _, ⟨(h.tab.keep ho1 (fun e => ?_)).congr (fun i _ => kindJ_com J i) (fun i _ => by unfold cntZ; rw [cntJ_com]), ⟨_, hO1, (unhide HR).com⟩, h.inv.commit, h.ts, fun e => ?_⟩, ho1⟩
  · rcases e with e | e
    · exact h.ts e
    · exact h.tF e
  · rcases e with e | e
    · exact h.tF e
    · omega
end
end Go.Proofs.Qxb6500417aGreat
