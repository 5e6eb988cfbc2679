/-
  OWN WORK. THE INDEX: List.
-/
import Derived.Test.Qxb6500418aIGather
namespace Go.Proofs.Qxb6500418a
open Go.RowKit Go.PlainAid
set_option linter.unusedSimpArgs false
set_option linter.unusedVariables false

theorem names_ok {F : Fo} (hw : F.Wf) {n : Str} (hnm : n ∈ F.names) : NameOk n := by
  induction F with
  | nil => simp [Fo.names] at hnm
  | file c n2 d m r ih =>
    simp [Fo.names] at hnm
    rcases hnm with e | e
    · rw [e]; exact hw.1
    · exact ih hw.2.2.2 e
  | dir c n2 k r ihk ih =>
    simp [Fo.names] at hnm
    rcases hnm with e | e
    · rw [e]; exact hw.1
    · exact ih hw.2.2.2.2 e
theorem leaf_names : ∀ {ps : List Str} {F : Fo} {v : Str × Int}, F.Wf → leaf ps F = some v → NamesOk ps
  | [], F, v, _, h => by cases h
  | n :: ps, F, v, hw, h => by
    have hx : F.hit n ≠ .none := fun e => by rw [leaf_cons, e] at h; cases h
    intro y hy
    simp at hy
    rcases hy with rfl | hy
    · exact names_ok hw (hit_name hx)
    · rw [leaf_cons] at h
      cases hh : F.hit n with
      | none => exact absurd hh hx
      | file c' d' m' =>
        rw [hh] at h
        by_cases e : ps = []
        · rw [e] at hy; simp at hy
        · simp [e] at h
      | dir c' k =>
        rw [hh] at h
        by_cases e : ps = []
        · rw [e] at hy; simp at hy
        · simp [e] at h
          exact leaf_names (hit_dir_wf hw hh) h y hy
theorem hgt6 {F : Fo} {L : List Fl} (hw : F.Wf) (hf : F.Full) (hL : F.gather [] = L) (hg : ∀ f ∈ L, goodB (pth f) = true) : F.hgt ≤ 6 := by
  by_cases hne : F = .nil
  · subst hne; simp [Fo.hgt]
  · obtain ⟨ps, d, m, h1, h2⟩ := hgt_leaf hw hf hne
    have hn := leaf_names hw h1
    have hne2 : ps ≠ [] := fun e => by rw [e] at h1; cases h1
    have hmem := (gather_leaf hw (mkFl (joinP ps) d m)).2 ⟨ps, d, m, hne2, hn, h1, rfl⟩
    have hgd := hg _ (hL ▸ hmem)
    rw [pth_mk] at hgd
    have hlen : (joinP ps).length ≤ 12 := by
      unfold goodB at hgd
      simp only [Bool.and_eq_true] at hgd
      exact (of_decide_eq_true hgd.1).2
    have := joinP_long hne2 hn
    omega

section
variable {w : World} {x : Nat} {L : List Fl}
/-- The rows as gather gives them. -/
theorem IX.gather (h : IX w x L) :
    Calls Try.prog 48 #[.pointer (some ⟨x, 0, none⟩), .int .i64 0, .string ⟨#[]⟩, .int .i64 6, .slice none 0 0] w fun e w' => ∃ v', e = .returned v' ∧ RI (fun _ => False) w v' L w' := by
  obtain ⟨⟨P, fr, F, fl, hA, hv, hw, hfu, hsh, hL⟩, hcnt, hgd⟩ := h
  have hh := hgt6 hw hfu hL (fun f hf => (hgd f hf).1)
  have C := gather_any 6 hA (by omega) 0 (by omega) F hv.tr.lay hv.tr.len hh hsh [] (by simp) (.slice none 0 0) [] (OwnR.nil w) (by simp [Value.ownBlock]) (by rw [hL]; simp; omega)
  refine C.mono ?_
  rintro e w' ⟨v', rfl, hR⟩
  rw [hL] at hR
  exact ⟨v', rfl, hR.own, fun y hy => .inr ((hR.hb y hy).resolve_left (by simp [Value.ownBlock])), hR.ho.mono (fun i _ e => by simp [Value.ownBlock] at e)⟩
set_option maxRecDepth 100000 in
set_option maxHeartbeats 2000000 in
theorem ilist_any (h : IX w x L) :
    Calls Try.prog 36 #[.pointer (some ⟨x, 0, none⟩)] w fun e w' => ∃ v', e = .returned v' ∧ OwnF w' v' L ∧ (∀ y, v'.ownBlock = some y → w.heap.size ≤ y) ∧ Only (fun _ => False) w w' := by
  have C1 := hide h.gather
  have hcnt := h.cnt
  have hxl := h.lt
  obtain ⟨i0, hi0, hz0, hz1, hz2⟩ := info_parts Try.infoFile
  clear h
  go_enter Try.func36, Try.ntmps36
  go_wp2_with fail
  refine (unhide C1).mono ?_
  rintro e w1 ⟨rv, rfl, hR⟩
  obtain ⟨a, cap, rfl, hc⟩ := hR.own.in_
  have ho1 := hR.ho
  have Hc := hide hc
  have H0 := hide (GI.nil w1)
  clear hc hR C1
  go_wp2_with fail
  go_loopw [4, 5] (fun ov iv wr => ∃ i : Nat, i ≤ L.length ∧ iv = .int .i64 i ∧ GI w1 ov (L.take i) wr) (fun _ iv _ => L.length - (intOf iv).toNat)
  case atStart => exact ⟨0, by omega, rfl, unhide H0⟩
  case round =>
    clear H0
    obtain ⟨i, hi, rfl, hG⟩ := hrel
    by_cases hil : i < L.length
    · obtain ⟨g, rfl, hcell⟩ := unhide Hc (by omega)
      obtain ⟨c0, c1, c2, _, _⟩ := hcell i hil
      have hgl : g < w1.heap.size := World.block_lt_of_cell? w1 _ c0
      have hbk := hG.ho.block g hgl (fun h => h)
      rw [← World.cell?_of_block hbk] at c0 c1 c2
      have a1 : decide ((i : Int) < (L.length : Int)) = true := by simp; omega
      have a2 : (i : Int) < (L.length : Int) := by omega
      have hsn : L.take (i + 1) = L.take i ++ [L[i]] := List.take_succ_eq_append_getElem hil
      have hlt : (L.take i).length = i := by rw [List.length_take]; omega
      have hws := hG.ho.size
      have hgw : g < wr.heap.size := by omega
      have own4 : wr.ownsRow 0 40 3 _ _ _ := hG.own
      rw [hlt] at own4
      have HG := hide hG
      have Hsn := hide hsn
      have Hlt := hide hlt
      clear hG hsn hlt hcell hbk
      generalize hL1 : L.take (i + 1) = L1 at *
      have HL1 := hide hL1
      clear hL1
      generalize L.take i = L0 at *
      generalize L[i] = f at *
      go_wp2_with (at_builtin; refine wpList_append2 _ rfl _ _ 34 rfl 40 i0 _ 3 40 Try.underlying34 hi0 hz0 hz1 hz2 rfl (by decide) _ _ _ rfl (own4.alloc _) ⟨wr.heap.size, 0, none⟩ 1 1 [.string f.path, .string f.data, .int .i64 f.mode] rfl rfl ?c1 ?c2 ?c3 ?c4 ?_)
      try (case c1 => exact news_ok _ _ _ _ rfl)
      case c2 => first | exact ⟨rfl, rfl, rfl⟩ | (intro u hu; simp at hu; rcases hu with rfl | rfl | rfl <;> rfl)
      case c3 => unfold maxLen; omega
      case c4 => omega
      intro v4 w4 hown' hgrow hwhere
      have h4 := (unhide HG).push f hown' (by rw [unhide Hlt]) hgrow hwhere
      rw [← unhide Hsn] at h4
      have H4 := hide h4
      clear hown' hgrow hwhere own4 HG h4
      go_wp2_with fail
      go_roundw
      case rel => exact ⟨i + 1, by omega, by go_num, by rw [unhide HL1]; exact unhide H4⟩
      case measure => simp [intOf]; omega
    · have a1 : decide ((i : Int) < (L.length : Int)) = false := by simp; omega
      have a1' : ¬ (i : Int) < (L.length : Int) := by omega
      have e1 : i = L.length := by omega
      rw [e1, List.take_length] at hG
      have HG := hide hG
      clear hG e1
      go_wp2_with fail
      go_ret
      have hs1 := ho1.size
      exact ⟨_, rfl, (unhide HG).own, fun y hy => by have := (unhide HG).hb y hy; omega, ho1.trans (unhide HG).ho (fun _ _ h => h)⟩
end
end Go.Proofs.Qxb6500418a
