/-
  OWN WORK. THE TREE: ReadTree.
-/
import Derived.Test.Qxb6500417aGreatTFltW
namespace Go.Proofs.Qxb6500417aGreat
open Go.RowKit Go.PlainAid
set_option linter.unusedSimpArgs false
set_option linter.unusedVariables false

def trE (J : Nat → Sl) (id : Int) : Nat := if liveJ J id = false then 6 else if (J id.toNat).kd = 2 then 0 else 3
def trL (J : Nat → Sl) (id : Int) : List En := if trE J id = 0 then (J id.toNat).lst else []
theorem trE_zero {J : Nat → Sl} {id : Int} (h : trE J id = 0) : ∃ i : Nat, id = i ∧ In i ∧ liveS (J i) = true ∧ (J i).kd = 2 := by
  unfold trE at h
  by_cases h1 : liveJ J id = false
  · rw [if_pos h1] at h; cases h
  · rw [if_neg h1] at h
    obtain ⟨i, rfl, h2, h3⟩ := liveJ_in (by simpa using h1)
    by_cases h4 : (J ((i : Int).toNat)).kd = 2
    · exact ⟨i, rfl, h2, h3, by simpa using h4⟩
    · rw [if_neg h4] at h; cases h
section
variable {w : World} {t s d rt : Nat} {D B : Nat → Nat} {recs : List Rec} {J : Nat → Sl} {F : Nat → Prop}
theorem tread_any (h : TS w t s d D B recs J rt F) (id : Int) :
    Calls Tryz.prog 174 #[.pointer (some ⟨t, 0, none⟩), .int .i64 id] w fun e w' => ∃ v, e = .returned (.tuple #[v, .int .i64 (trE J id : Nat)]) ∧ EI w (.slice none 0 0) v (trL J id) w' := by
  have C1 : Calls Tryz.prog 195 #[.pointer (some ⟨t, 0, none⟩), .int .i64 id] w fun e w' => e = .returned (.int .i64 (trE J id : Nat)) ∧ w = w' := h.isTree_any id
  by_cases he : trE J id = 0
  · obtain ⟨i, rfl, hi, hl, hk⟩ := trE_zero he
    have hst := liveS_ne hl
    have ht := h.inv.tr i hi hst hk
    have C2 : Calls Tryz.prog 196 #[.pointer (some ⟨t, 0, none⟩), .int .i64 i, .string ⟨#[]⟩, .int .i64 6, .slice none 0 0] w fun e w' => ∃ v', e = .returned v' ∧ EI w (.slice none 0 0) v' ([] ++ flatP 6 J i []) w' := tflat_any 6 w i [] (.slice none 0 0) [] 6 rfl h hi hl hk ht.fine.deep (OwnE.nil w) (fun y hy => by simp [Value.ownBlock] at hy) (by simp) (by simp)
    rw [List.nil_append, flatP_root h.inv hi hst hk] at C2
    have hL : trL J (i : Int) = (J i).lst := by unfold trL; rw [if_pos he]; simp
    rw [← hL] at C2
    rw [he] at C1
    rw [he]
    have C1 := hide C1
    have C2 := hide C2
    clear h ht hL he
    generalize trL J (i : Int) = L at *
    go_enter Tryz.func174, Tryz.ntmps174
    go_wp2_with fail
    refine (unhide C1).mono ?_
    rintro e w1 ⟨rfl, rfl⟩
    go_wp2_with fail
    refine (unhide C2).mono ?_
    rintro e w1 ⟨v, rfl, hE⟩
    have HE := hide hE
    clear hE
    go_wp2_with fail
    refine bodyPost_ret (v := .tuple #[v, .int .i64 0]) (by simp [results, Tryz.results174, go_sem]) rfl ?_
    exact ⟨v, rfl, unhide HE⟩
  · have hL : trL J id = [] := by unfold trL; rw [if_neg he]
    rw [hL]
    generalize trE J id = x at *
    have e1 : ((x : Int) != 0) = true := by simp; omega
    have C1 := hide C1
    have RR := hide (EI.start (OwnE.nil w))
    clear h hL
    go_enter Tryz.func174, Tryz.ntmps174
    go_wp2_with fail
    refine (unhide C1).mono ?_
    rintro e w1 ⟨rfl, rfl⟩
    go_wp2_with fail
    refine bodyPost_ret (v := .tuple #[.slice none 0 0, .int .i64 (x : Int)]) (by simp [results, Tryz.results174, go_sem]) rfl ?_
    exact ⟨_, rfl, unhide RR⟩
end
end Go.Proofs.Qxb6500417aGreat
