/-
  OWN WORK. THE INDEX: Del.
-/
import Derived.Test.Qxb6500418aIPrune
namespace Go.Proofs.Qxb6500418a
open Go.RowKit Go.PlainAid
set_option linter.unusedSimpArgs false
set_option linter.unusedVariables false

theorem withoutL_no {L : List Fl} {p : ByteArray} (h : findI L p = -1) : withoutL L p = L := by
  unfold withoutL
  rw [List.filter_eq_self]
  intro f hf
  have := findI_iff.1 h f hf
  simp
  intro e
  exact this (by unfold pth; rw [e])
theorem withoutL_len {L : List Fl} {p : ByteArray} (hs : L.Pairwise (fun a b => bl (pth a) (pth b) = true)) {f : Fl} (hf : f ∈ L) (hp : f.path = p) : (withoutL L p).length + 1 = L.length := by
  induction L with
  | nil => simp at hf
  | cons a L ih =>
    rw [List.pairwise_cons] at hs
    by_cases e : a.path = p
    · have hL : withoutL L p = L := by
        unfold withoutL
        rw [List.filter_eq_self]
        intro g hg
        simp
        intro e2
        have := hs.1 g hg
        have e3 : pth a = pth g := by unfold pth; rw [e, e2]
        rw [e3, bl_irr] at this
        cases this
      have : withoutL (a :: L) p = withoutL L p := by unfold withoutL; rw [List.filter_cons]; simp [e]
      rw [this, hL]
      rfl
    · have : withoutL (a :: L) p = a :: withoutL L p := by unfold withoutL; rw [List.filter_cons]; simp [e]
      rw [this]
      simp at hf
      rcases hf with rfl | hf
      · exact absurd hp e
      · simp [ih hs.2 hf]

section
variable {w : World} {x : Nat} {L : List Fl}
set_option maxRecDepth 100000 in
set_option maxHeartbeats 2000000 in
theorem idel_any (h : IX w x L) (p : ByteArray) :
    Calls Try.prog 22 #[.pointer (some ⟨x, 0, none⟩), .string p] w fun e w' => e = .returned (.int .i64 (if findI L p = -1 then 13 else 0)) ∧ IX w' x (withoutL L p) ∧ Only (fun k => k = x) w w' := by
  have hxl := h.lt
  have C1 := goodPath_any p w
  cases hg : goodB (ls p) with
  | false =>
    have hf := h.bad hg
    rw [if_pos hf, withoutL_no hf]
    rw [hg] at C1
    have C1 := hide C1
    have H := hide h
    clear hg hf h
    go_enter Try.func22, Try.ntmps22
    go_wp2_with fail
    refine (unhide C1).mono ?_
    rintro e w1 ⟨rfl, rfl⟩
    go_wp2_with fail
    go_ret
    exact ⟨rfl, unhide H, Only.refl _ _⟩
  | true =>
    rw [hg] at C1
    have C1 := hide C1
    have hp12 := (goodB_size hg).2
    obtain ⟨ps, hne, hn, hp⟩ := good_parts hg
    have hlaw := h.lawful
    have H := hide h
    obtain ⟨⟨P, fr, F, fl, hA, hv, hw, hfu, hsh, hL⟩, hcnt, hgd⟩ := h
    obtain ⟨k1, k2, k3, k4⟩ := look_list hw hfu hL hp hne hn
    have C2 := probe_any hA hv.tr p ps hp hne hn (by omega)
    have hnot : (∀ c d m, look ps F ≠ .file c d m) → findI L p = -1 := by
      intro hno
      cases hl : look ps F with
      | clash c => exact k4 ⟨c, hl⟩
      | new => exact (k2.1 hl).2
      | file c d m => exact absurd hl (hno c d m)
    cases hl : look ps F with
    | clash c =>
      have hf := hnot (fun c d m e => by rw [hl] at e; cases e)
      rw [if_pos hf, withoutL_no hf]
      rw [hl] at C2
      have C2 : Calls Try.prog 41 #[.pointer (some ⟨x, 0, none⟩), .string p] w fun e w' => e = .returned (.tuple #[.int .i64 (c : Int), .bool true]) ∧ Only (fun _ => False) w w' := C2
      have C2 := hide C2
      clear hg hf hl k1 k2 k3 k4 hA hv hw hfu hsh hL hgd hp hn hne hnot hlaw
      have hc0 : ((c : Int) == 0) = true ∨ ((c : Int) == 0) = false := by cases ((c : Int) == 0) <;> simp
      go_enter Try.func22, Try.ntmps22
      go_wp2_with fail
      refine (unhide C1).mono ?_
      rintro e w1 ⟨rfl, rfl⟩
      go_wp2_with fail
      refine (unhide C2).mono ?_
      rintro e w2 ⟨rfl, ho2⟩
      have hfin := hide (And.intro ((unhide H).keep ho2 (fun h => h)) (ho2.mono (T := fun k => k = x) (fun _ _ h => h.elim)))
      rcases hc0 with hc0 | hc0
      · go_wp2_with fail
        go_ret
        exact ⟨rfl, unhide hfin⟩
      · go_wp2_with fail
        go_ret
        exact ⟨rfl, unhide hfin⟩
    | new =>
      have hf := hnot (fun c d m e => by rw [hl] at e; cases e)
      rw [if_pos hf, withoutL_no hf]
      rw [hl] at C2
      have C2 : Calls Try.prog 41 #[.pointer (some ⟨x, 0, none⟩), .string p] w fun e w' => e = .returned (.tuple #[.int .i64 0, .bool false]) ∧ Only (fun _ => False) w w' := C2
      have C2 := hide C2
      clear hg hf hl k1 k2 k3 k4 hA hv hw hfu hsh hL hgd hp hn hne hnot hlaw
      go_enter Try.func22, Try.ntmps22
      go_wp2_with fail
      refine (unhide C1).mono ?_
      rintro e w1 ⟨rfl, rfl⟩
      go_wp2_with fail
      refine (unhide C2).mono ?_
      rintro e w2 ⟨rfl, ho2⟩
      have hfin := hide (And.intro ((unhide H).keep ho2 (fun h => h)) (ho2.mono (T := fun k => k = x) (fun _ _ h => h.elim)))
      go_wp2_with fail
      go_ret
      exact ⟨rfl, unhide hfin⟩
    | file c d m =>
      have hmem := k3 c d m hl
      obtain ⟨y1, y2, y3, y4⟩ := look_lay hv.tr.lay hl
      have hfp : (mkFl (joinP ps) d m).path = p := ls_inj (by rw [hp]; exact pth_mk _ _ _)
      have hf : findI L p ≠ -1 := fun e => findI_iff.1 e _ hmem (by rw [pth_mk, hp])
      rw [if_neg hf]
      rw [hl] at C2
      have C2 : Calls Try.prog 41 #[.pointer (some ⟨x, 0, none⟩), .string p] w fun e w' => e = .returned (.tuple #[.int .i64 (c : Int), .bool false]) ∧ Only (fun _ => False) w w' := C2
      have hlen := withoutL_len hlaw.srt hmem hfp
      have hp6 : ps.length ≤ 6 := by
        have h1 := joinP_long hne hn
        rw [← hp, ls_len] at h1
        omega
      have C3 := fun W (hW : Only (fun _ => False) w W) => prune_any (fi := (withoutL L p).length) (by rw [hlen]; exact hA.keep hW (fun h => h)) hv hw hsh hfu p ps hp hne hn hp6 (by omega) hl (by omega)
      have hfin : ∀ W P' fr' fl' G, IAt W x P' fr' (withoutL L p).length → PrDone P' fr' fl' G F ps → IX W x (withoutL L p) := by
        intro W P' fr' fl' G hI hD
        refine ⟨⟨P', fr', G, fl', hI, hD.inv, hD.wf, hD.full, hD.sh, ?_⟩, by omega, fun f hf => hgd f (List.mem_filter.1 hf).1⟩
        rw [del_law hw hD.wf hne hn hD.gone hD.oth p hp, hL]
      have C2 := hide C2
      have C3 := hide C3
      have Hfin := hide hfin
      have e0 : ((c : Int) == 0) = false := by simp; omega
      clear hg hf hl k1 k2 k3 k4 hA hv hw hfu hsh hL hgd hp hn hne hnot hlaw hfp hmem y1 y2 hfin hlen H
      generalize withoutL L p = L' at *
      go_enter Try.func22, Try.ntmps22
      go_wp2_with fail
      refine (unhide C1).mono ?_
      rintro e w1 ⟨rfl, rfl⟩
      go_wp2_with fail
      refine (unhide C2).mono ?_
      rintro e w2 ⟨rfl, ho2⟩
      go_wp2_with fail
      refine ((unhide C3) _ ho2).mono ?_
      rintro e w3 ⟨rfl, ⟨P', fr', fl', G, hI, hD⟩, ho3⟩
      have hres := hide (And.intro (unhide Hfin w3 P' fr' fl' G hI hD) ((ho2.mono (T := fun k => k = x) (fun _ _ h => h.elim)).trans ho3 (fun _ _ h => h)))
      clear hI hD ho3 ho2
      go_wp2_with fail
      go_ret
      exact ⟨rfl, unhide hres⟩
end
end Go.Proofs.Qxb6500418a
