/-
  OWN WORK. THE INDEX: Load.
-/
import Derived.Test.Qxb6500418aILaw
namespace Go.Proofs.Qxb6500418a
open Go.RowKit Go.PlainAid
set_option linter.unusedSimpArgs false
set_option linter.unusedVariables false

section
variable {w : World} {x : Nat} {L : List Fl}
theorem iput_ix {A : List Fl} (h : IX w x A) (f : Fl) (hl : Law (A ++ [f])) (h7 : A.length ≤ 7) :
    Calls Try.prog 42 #[.pointer (some ⟨x, 0, none⟩), .agg #[.string f.path, .string f.data, .int .i64 f.mode]] w fun e w' => e = .returned (.tuple #[]) ∧ IX w' x (A ++ [f]) ∧ Only (fun k => k = x) w w' := by
  obtain ⟨hA, hf, hs, hc⟩ := law_snoc.1 hl
  obtain ⟨ps, hne, hn, hp⟩ := good_parts hf.1
  have hp : ls f.path = joinP ps := hp
  have hp12 := (goodB_size hf.1).2
  obtain ⟨⟨P, fr, F, fl, hI, hv, hw, hfu, hsh, hL⟩, hcnt, hgd⟩ := h
  obtain ⟨k1, k2, k3, k4⟩ := look_list hw hfu hL hp hne hn
  have hnew : look ps F = .new := by
    rw [k2]
    refine ⟨?_, findI_iff.2 (fun g hg e => ?_)⟩
    · rw [List.any_eq_false]
      intro g hg
      have := hc g hg
      unfold pth at this
      simp [this]
    · have := hs g hg
      have e : pth g = pth f := e
      rw [e, bl_irr] at this
      cases this
  have hroom := room hv hw hfu hL (fun g hg => (hgd g hg).1) h7
  have hp6 : ps.length ≤ 6 := by
    have h1 := joinP_long hne hn
    rw [← hp, ls_len] at h1
    omega
  have hwe := withL_end hl
  have C := iput_any hI hv hw hsh hfu f ps hp hne hn hp12 (by have := hf.2.2.2; omega) (by rw [hnew]; intro c e; cases e) true (by rw [hnew]; simp) (fun _ => by omega) (by omega) (A.length + 1) (by simp)
  refine C.mono ?_
  rintro e w' ⟨rfl, ⟨P', fr', G, fl', h1, h2⟩, ho⟩
  have := h2.ix h1 hL (by rw [hwe]; simp) (by omega) hA.srt hA.good hf
  rw [hwe] at this
  exact ⟨rfl, this, ho⟩
def loadL (L l : List Fl) : List Fl := if checkF l = 0 then l else L
set_option maxRecDepth 100000 in
set_option maxHeartbeats 2000000 in
theorem iload_any (h : IX w x L) (v : Value) (l : List Fl) (hv : FilesIn w v l) (hvx : v.ownBlock ≠ some x) :
    Calls Try.prog 28 #[.pointer (some ⟨x, 0, none⟩), v] w fun e w' => e = .returned (.int .i64 (checkF l : Nat)) ∧ IX w' x (loadL L l) ∧ Only (fun k => k = x) w w' := by
  have hxl := h.lt
  have C1 := checkFiles_any v l hv
  have hlaw := checkF_law l
  obtain ⟨a, cap, rfl, hc⟩ := hv
  unfold loadL
  by_cases hz : checkF l = 0
  · rw [if_pos hz]
    have hl := hlaw.1 hz
    have hLaw : Law l := ⟨hl.good, hl.srt, hl.ncl⟩
    have hcnt := hl.cnt
    rw [hz] at C1 ⊢
    have C1 := hide C1
    obtain ⟨P, fr, F, fl, hI, _⟩ := h.ex
    have HI := hide hI
    have Hc := hide hc
    have HLaw := hide hLaw
    clear h hlaw hz hl hLaw hI hc
    go_enter Try.func28, Try.ntmps28
    go_wp2_with fail
    refine (unhide C1).mono ?_
    rintro e w1 ⟨rfl, ho1⟩
    have C2 := hide (reset_any ((unhide HI).keep ho1 (fun h => h)))
    go_wp2_with fail
    refine (unhide C2).mono ?_
    rintro e w2 ⟨rfl, h2, ho2⟩
    have hx2 : IX w2 x [] := ⟨⟨freshP, 1, .nil, _, h2, fresh_inv, trivial, trivial, trivial, rfl⟩, by simp, by simp⟩
    have oo := (ho1.mono (T := fun k => k = x) (fun _ _ h => h.elim)).trans ho2 (fun _ _ h => h)
    have HX2 := hide hx2
    have OO := hide oo
    clear C1 C2 HI h2 ho2 hx2 oo ho1
    go_wp2_with fail
    go_loopw [6] (fun iv wr => ∃ i : Nat, i ≤ l.length ∧ iv = .int .i64 i ∧ IX wr x (l.take i) ∧ Only (fun k => k = x) w wr) (fun iv _ => l.length - (intOf iv).toNat)
    case atStart => exact ⟨0, by omega, rfl, unhide HX2, unhide OO⟩
    case round =>
      clear HX2 OO
      obtain ⟨i, hi, rfl, hX, ho⟩ := hrel
      have hxr := hX.lt
      by_cases hil : i < l.length
      · obtain ⟨g, rfl, hcell⟩ := unhide Hc (by omega)
        obtain ⟨c0, c1, c2⟩ := hcell i hil
        have hgl : g < w.heap.size := World.block_lt_of_cell? w _ c0
        have hgx : g ≠ x := fun e => hvx (by rw [← e]; rfl)
        have hbk := ho.block g hgl hgx
        rw [← World.cell?_of_block hbk] at c0 c1 c2
        have a1 : decide ((i : Int) < (l.length : Int)) = true := by simp; omega
        have a2 : (i : Int) < (l.length : Int) := by omega
        have hsn : l.take (i + 1) = l.take i ++ [l[i]] := List.take_succ_eq_append_getElem hil
        have hlt : (l.take i).length = i := by rw [List.length_take]; omega
        have hl2 : Law (l.take i ++ [l[i]]) := by
          rw [← hsn]
          have hL := unhide HLaw
          have hsub := List.take_sublist (i + 1) l
          exact ⟨fun f hf => hL.good f (hsub.subset hf), hL.srt.sublist hsub, fun f hf g hg => hL.ncl f (hsub.subset hf) g (hsub.subset hg)⟩
        have C3 := iput_ix hX l[i] hl2 (by omega)
        rw [← hsn] at C3
        have C3 := hide C3
        have hgw : g < wr.heap.size := Nat.lt_of_lt_of_le hgl ho.size
        clear hX hsn hlt hl2 hcell hbk
        generalize l[i] = f at *
        go_wp2_with fail
        refine (unhide C3).mono ?_
        rintro e w4 ⟨rfl, h4, ho4⟩
        have H4 := hide h4
        have o4 := ho.trans ho4 (fun _ _ h => h)
        clear h4 ho4
        go_wp2_with fail
        go_roundw
        case rel => exact ⟨i + 1, by omega, by go_num, unhide H4, o4⟩
        case measure => simp [intOf]; omega
      · have a1 : decide ((i : Int) < (l.length : Int)) = false := by simp; omega
        have a1' : ¬ (i : Int) < (l.length : Int) := by omega
        have e1 : i = l.length := by omega
        rw [e1, List.take_length] at hX
        have HX := hide hX
        clear hX e1
        go_wp2_with fail
        go_ret
        exact ⟨rfl, unhide HX, ho⟩
  · rw [if_neg hz]
    have C1 := hide C1
    have H := hide h
    generalize checkF l = e0 at *
    have b1 : ((e0 : Int) != 0) = true := by simp; omega
    clear h hlaw hz hc
    go_enter Try.func28, Try.ntmps28
    go_wp2_with fail
    refine (unhide C1).mono ?_
    rintro e w1 ⟨rfl, ho1⟩
    have hfin := hide (And.intro ((unhide H).keep ho1 (fun h => h)) (ho1.mono (T := fun k => k = x) (fun _ _ h => h.elim)))
    go_wp2_with fail
    go_ret
    exact ⟨rfl, unhide hfin⟩
end
end Go.Proofs.Qxb6500418a
