/-
  OWN WORK. THE INDEX: reset.
-/
import Derived.Test.Qxb6500418aIDel
namespace Go.Proofs.Qxb6500418a
open Go.RowKit Go.PlainAid
set_option linter.unusedSimpArgs false
set_option linter.unusedVariables false

def freshP (i : Nat) : Nd := if 1 ≤ i ∧ i < 48 then ⟨[], 0, i + 1, false, [], 0, 0, 0⟩ else Nd.zero
theorem fresh_free : ∀ (n i : Nat), i + n = 49 → 1 ≤ i → FreeL freshP ((List.range n).map (· + i)) (if n = 0 then 0 else i)
  | 0, i, h, h1 => rfl
  | n + 1, i, h, h1 => by
    rw [List.range_succ_eq_map, if_neg (by omega)]
    simp only [List.map_cons, Nat.zero_add, List.map_map]
    have e : ((fun x => x + i) ∘ Nat.succ) = (fun x => x + (i + 1)) := by funext y; show y + 1 + i = y + (i + 1); omega
    rw [e]
    have ih := fresh_free n (i + 1) (by omega) (by omega)
    refine ⟨rfl, by omega, ?_, ?_⟩
    · unfold freshP
      by_cases h2 : i < 48
      · rw [if_pos ⟨h1, h2⟩]
      · rw [if_neg (fun h => h2 h.2)]; rfl
    · have : (freshP i).next = if n = 0 then 0 else i + 1 := by
        unfold freshP
        by_cases h2 : i < 48
        · rw [if_pos ⟨h1, h2⟩, if_neg (by omega)]
        · rw [if_neg (fun h => h2 h.2), if_pos (by omega)]; rfl
      rw [this]
      exact ih
theorem fresh_inv : IInv freshP 1 .nil ((List.range 48).map (· + 1)) := by
  refine ⟨⟨rfl, rfl, by simp [Fo.ids]⟩, fresh_free 48 1 rfl (by omega), ?_, fun c h1 h2 => ?_⟩
  · simp only [Fo.ids, List.nil_append]
    rw [List.nodup_iff_pairwise_ne, List.pairwise_map]
    refine List.Pairwise.imp ?_ (List.nodup_iff_pairwise_ne.1 (List.nodup_range (n := 48)))
    intro a b hab; omega
  · simp only [Fo.ids, List.nil_append, List.mem_map, List.mem_range]
    exact ⟨c - 1, by omega, by omega⟩

section
variable {w : World} {x : Nat} {P : Nat → Nd} {fr fi : Nat}
theorem IAt.wipe0 (h : IAt w x P fr fi) (c : Nat) (hc : c < 49) : IAt ((((((((w.setCell ⟨x, c * 8, none⟩ (.string ⟨#[]⟩)).setCell ⟨x, c * 8 + 1, none⟩ (.int .i64 0)).setCell ⟨x, c * 8 + 2, none⟩ (.int .i64 0)).setCell ⟨x, c * 8 + 3, none⟩ (.bool false)).setCell ⟨x, c * 8 + 4, none⟩ (.string ⟨#[]⟩)).setCell ⟨x, c * 8 + 5, none⟩ (.int .i64 0)).setCell ⟨x, c * 8 + 6, none⟩ (.int .i64 0)).setCell ⟨x, c * 8 + 7, none⟩ (.int .i64 0)) x (updT P c Nd.zero) fr fi := h.put c hc Nd.zero
set_option maxRecDepth 100000 in
set_option maxHeartbeats 4000000 in
theorem reset_any (h : IAt w x P fr fi) :
    Calls Try.prog 18 #[.pointer (some ⟨x, 0, none⟩)] w fun e w' => e = .returned (.tuple #[]) ∧ IAt w' x freshP 1 0 ∧ Only (fun k => k = x) w w' := by
  have hxl := h.lt
  have H := hide h
  clear h
  go_enter Try.func18, Try.ntmps18
  go_wp2_with fail
  go_loopw [2] (fun iv wr => ∃ (i : Nat) (Q : Nat → Nd), iv = .int .i64 i ∧ i ≤ 49 ∧ IAt wr x Q fr fi ∧ (∀ j, j < i → Q j = Nd.zero) ∧ Only (fun k => k = x) w wr) (fun iv _ => (49 - intOf iv).toNat)
  case atStart => exact ⟨0, P, rfl, by omega, unhide H, fun j hj => by omega, Only.refl _ _⟩
  case round =>
    clear H
    obtain ⟨i, Q, rfl, hi, h, hQ, ho⟩ := hrel
    have hxr := h.lt
    by_cases hi2 : i < 49
    · have a1 : (i : Int) < 49 := by omega
      have a2 : decide ((i : Int) < 49) = true := by simp; omega
      obtain ⟨z0, z1, z2, z3, z4, z5, z6, z7⟩ := h.all i hi2
      have h2 := hide (h.wipe0 i hi2)
      have o2 := hide (only8 (i := i) ho (fun _ => rfl) (.string ⟨#[]⟩) (.int .i64 0) (.int .i64 0) (.bool false) (.string ⟨#[]⟩) (.int .i64 0) (.int .i64 0) (.int .i64 0))
      have HQ := hide hQ
      clear h ho hQ
      go_wp2_with fail
      go_roundw
      case rel =>
        refine ⟨i + 1, updT Q i Nd.zero, by go_num, by omega, unhide h2, fun j hj => ?_, unhide o2⟩
        by_cases e : j = i
        · rw [e, updT_same]
        · rw [updT_other _ _ _ _ e]; exact unhide HQ j (by omega)
      case measure => simp [intOf]; omega
    · have a2 : decide ((i : Int) < 49) = false := by simp; omega
      have a3 : ¬ (i : Int) < 49 := by omega
      have H := hide h
      have O := hide ho
      have HQ : Hid (∀ j, j < 49 → Q j = Nd.zero) := hide (fun j hj => hQ j (by omega))
      clear h ho hQ
      go_wp2_with fail
      go_loopw [3] (fun iv wr => ∃ (i : Nat) (Q : Nat → Nd), iv = .int .i64 i ∧ (1 ≤ i ∧ i ≤ 48) ∧ IAt wr x Q fr fi ∧ (∀ j, j < 49 → Q j = if 1 ≤ j ∧ j < i then ⟨[], 0, j + 1, false, [], 0, 0, 0⟩ else Nd.zero) ∧ Only (fun k => k = x) w wr) (fun iv _ => (49 - intOf iv).toNat)
      case atStart => exact ⟨1, Q, rfl, by omega, unhide H, fun j hj => by rw [if_neg (by omega)]; exact unhide HQ j hj, unhide O⟩
      case round =>
        clear H O HQ
        obtain ⟨i, Q, rfl, hi, h, hQ, ho⟩ := hrel
        have hxr := h.lt
        by_cases hi2 : i < 48
        · have a1 : (i : Int) < 49 := by omega
          have a2 : decide ((i : Int) < 48) = true := by simp; omega
          have z2 := h.nx i (by omega)
          have y2 := h.fz (i * 8 + 2)
          have h2 := h.setNext i (by omega) (i + 1)
          have ecast : ((i + 1 : Nat) : Int) = (i : Int) + 1 := by omega
          rw [ecast] at h2
          have h2 := hide h2
          have o2 := hide (ho.setCell (p := ⟨x, i * 8 + 2, none⟩) (fun _ => rfl) (.int .i64 ((i : Int) + 1)))
          have HQ := hide hQ
          clear h ho hQ ecast
          go_wp2_with fail
          go_roundw
          case rel =>
            refine ⟨i + 1, _, by go_num, by omega, unhide h2, fun j hj => ?_, unhide o2⟩
            by_cases e : j = i
            · rw [e, updT_same, unhide HQ i (by omega), if_neg (by omega), if_pos (by omega)]; rfl
            · rw [updT_other _ _ _ _ e, unhide HQ j hj]
              by_cases e2 : 1 ≤ j ∧ j < i
              · rw [if_pos e2, if_pos (by omega)]
              · rw [if_neg e2, if_neg (by omega)]
          case measure => simp [intOf]; omega
        · have a2 : decide ((i : Int) < 48) = false := by simp; omega
          have a3 : ¬ (i : Int) < 48 := by omega
          have hfr : IAt wr x freshP fr fi := h.congr (fun j hj => by
            rw [hQ j hj]
            unfold freshP
            have : i = 48 := by omega
            rw [this])
          have f1 := hfr.free_
          have h2 := hfr.setFree 1
          have f2 := h2.files_
          have h3 := hide (h2.setFiles 0)
          have o3 := hide ((ho.setCell (p := ⟨x, 392, none⟩) (fun _ => rfl) (.int .i64 ((1 : Nat) : Int))).setCell (p := ⟨x, 393, none⟩) (fun _ => rfl) (.int .i64 ((0 : Nat) : Int)))
          have g1 := h.files_
          clear h ho hQ hfr h2 f2
          go_wp2_with fail
          go_end0
          exact ⟨rfl, unhide h3, unhide o3⟩
end
end Go.Proofs.Qxb6500418a
