/-
  OWN WORK. THE GRAPH's MODEL: api's Stay (written by tools/gen_hmd8.py).
-/
import Derived.Test.Qxb6500417aGreatHMd7
namespace Go.Proofs.Qxb6500417aGreat
open Go.RowKit Go.PlainAid
set_option linter.unusedSimpArgs false
set_option linter.unusedVariables false

theorem Tryz.infoFls : (Tryz.prog.info? 36).map (fun i => (i.zero, i.size, i.bytes)) = some (some (.slice none 0 0), 1, 24) := by kernel_rfl
theorem weightA_le {ss : List (List Fl)} (hs : SnS ss) : weightA ss ≤ 600000 := by
  have hW : weightA ss = (addOs [] (datT ss)).length + (addOs [] (keyTs ss)).length := rfl
  have h1 := addOs_len (datT ss) []
  have h2 := datT_len (ss := ss) hs.l
  have h3 := addOs_len (keyTs ss) []
  have h4 := keyTs_len (ss := ss) hs.l hs.f
  have := hs.n
  simp at h1 h3
  omega
/-- A list of lists that was made. -/
structure SnM (w : World) (v : Value) (vs : List Value) (w' : World) : Prop where
  own : w'.ownsRow 0 36 1 v vs.length vs
  hb : ∀ y, v.ownBlock = some y → w.heap.size ≤ y
  ho : Only (fun _ => False) w w'
/-- Its lists. -/
def SnL (w : World) (vs : List Value) (ss : List (List Fl)) : Prop := vs.length = ss.length ∧ ∀ (i : Nat) (v : Value) (l : List Fl), vs[i]? = some v → ss[i]? = some l → FilesIn w v l
theorem SnM.nil (w : World) : SnM w (.slice none 0 0) [] w := ⟨World.ownsRow_nil _ _ _ _, fun y hy => by simp [Value.ownBlock] at hy, Only.refl _ _⟩
theorem SnM.quiet {w : World} {v : Value} {vs : List Value} {w1 w2 : World} (h : SnM w v vs w1) (ho : Only (fun _ => False) w1 w2) : SnM w v vs w2 := ⟨ownsRow_keep h.own ho (fun _ _ h => h), h.hb, h.ho.trans ho (fun _ _ h => h)⟩
theorem SnM.push2 {w : World} {v v' : Value} {vs : List Value} {w1 w2 : World} {o : Obj} {n : Nat} {x : Value} (h : SnM w v vs w1) (hown : w2.ownsRow 0 36 1 v' n (vs ++ [x])) (hn : n = vs.length + 1) (hgrow : (w1.alloc o).grownBy w2 v.ownBlock) (hwhere : ∀ k, v'.ownBlock = some k → v.ownBlock = some k ∨ k = w1.heap.size + 1) : SnM w v' (vs ++ [x]) w2 := by
  have hs := h.ho.size
  refine ⟨?_, fun y hy => ?_, (h.ho.alloc _).grown hgrow (fun b hb hlt => by have := h.hb b hb; omega)⟩
  · rw [List.length_append, List.length_singleton, ← hn]
    exact hown
  · rcases hwhere y hy with e | e
    · exact h.hb y e
    · omega
theorem SnL.snoc {w : World} {vs : List Value} {ss : List (List Fl)} {v : Value} {l : List Fl} (h : SnL w vs ss) (hf : FilesIn w v l) : SnL w (vs ++ [v]) (ss ++ [l]) := by
  refine ⟨by simp [h.1], fun i u k hu hk => ?_⟩
  by_cases hi : i < vs.length
  · rw [List.getElem?_append_left hi] at hu
    rw [List.getElem?_append_left (by rw [← h.1]; exact hi)] at hk
    exact h.2 i u k hu hk
  · rw [List.getElem?_append_right (by omega)] at hu
    rw [List.getElem?_append_right (by rw [← h.1]; omega), ← h.1] at hk
    by_cases h0 : i - vs.length = 0
    · rw [h0] at hu hk
      simp at hu hk
      rw [← hu, ← hk]; exact hf
    · have : [v][i - vs.length]? = none := by apply List.getElem?_eq_none; simp; omega
      rw [this] at hu; cases hu
theorem SnM.in_ {w : World} {v : Value} {vs : List Value} {w' : World} {ss : List (List Fl)} (h : SnM w v vs w') (hL : SnL w vs ss) : SnIn w' v ss := by
  obtain ⟨a, cap, rfl⟩ := ownsRow_shape h.own
  refine ⟨a, cap, by rw [hL.1], fun hn => ?_⟩
  obtain ⟨g, cap', he, hc⟩ := ownsRow_at h.own (by rw [hL.1]; omega)
  obtain ⟨rfl, _⟩ := slice_eq he
  refine ⟨g, rfl, fun i hi => ?_⟩
  have hi' : i < vs.length := by rw [hL.1]; exact hi
  exact ⟨vs[i], hc i _ (List.getElem?_eq_getElem hi'), (hL.2 i _ _ (List.getElem?_eq_getElem hi') (List.getElem?_eq_getElem hi)).keep h.ho (fun _ _ h => h)⟩
section
variable {w w' : World} {nv rv av : Value} {A S : GA} {O P H : Nat → Prop} {m : Nat} {lx hz : Bool} {r sr : Int}

set_option maxRecDepth 100000 in
set_option maxHeartbeats 4000000 in
theorem astay_any {v av : Value} {l : List Nd} {aux : List Fl} (h : NodesIn O w v l) (ha : FilesIn w av aux) (hl : l.length ≤ 40) (hs : SnS (l.map Nd.files ++ [aux])) :
    Calls Tryz.prog 161 #[v, av] w fun e w' => e = .returned (.int .i64 (stayA l aux : Nat)) ∧ Only (fun _ => False) w w' := by
  obtain ⟨i0, hi0, hz0, hz1, hz2⟩ := info_parts Tryz.infoFls
  have H0 := hide h
  have HA := hide ha
  have HS := hide hs
  obtain ⟨a, cap, rfl⟩ := h.shape
  obtain ⟨aa, ac, rfl⟩ := ha.shape
  clear h ha hs
  go_enter Tryz.func161, Tryz.ntmps161
  go_wp2_with fail
  go_loopw [5, 6] (fun ov iv wr => ∃ (i : Nat) (vs : List Value), i ≤ l.length ∧ iv = .int .i64 i ∧ SnM w ov vs wr ∧ SnL w vs ((l.map Nd.files).take i)) (fun _ iv _ => l.length - (intOf iv).toNat)
  case atStart => exact ⟨0, [], by omega, rfl, SnM.nil w, rfl, fun i v k hv => by simp at hv⟩
  case round =>
    obtain ⟨i, vs, hi, rfl, hM, hL⟩ := hrel
    have hvl : vs.length ≤ 40 := by rw [hL.1, List.length_take, List.length_map]; omega
    by_cases hil : i < l.length
    · obtain ⟨g, _, he, hgl, hN⟩ := (unhide H0).cellAt hil
      obtain ⟨rfl, rfl⟩ := slice_eq he
      obtain ⟨fv, k0, hF, _⟩ := hN.fs
      have k1 := (World.cell?_of_block (a := ⟨g, i * 4 + 1, none⟩) (hM.ho.block g hgl (fun h => h))).trans k0
      have hgr : g < wr.heap.size := by have := hM.ho.size; omega
      have a1 : decide ((i : Int) < (l.length : Int)) = true := decide_eq_true (by omega)
      have a1n : decide (i < l.length) = true := decide_eq_true hil
      have a2 : (i : Int) < (l.length : Int) := by omega
      have hsn := take_snoc (l := l.map Nd.files) (i := i) (by simpa using hil)
      rw [List.getElem_map] at hsn
      have hL2 := hL.snoc hF
      rw [hsn] at hL2
      have HL2 := hide hL2
      have HM := hide hM
      have own2 : wr.ownsRow 0 36 1 _ _ _ := hM.own
      obtain ⟨oa, oc, rfl⟩ := ownsRow_shape hM.own
      obtain ⟨fa, fc, rfl⟩ := hF.shape
      clear hM he hN hsn k0 hL hL2 hF
      generalize (l[i]).files.length = fl at *
      go_wp2_with (at_builtin; refine wpList_append2 _ rfl _ _ 203 rfl 36 i0 _ 1 24 Tryz.underlying203 hi0 hz0 hz1 hz2 rfl (by decide) _ _ _ rfl (own2.alloc _) ⟨wr.heap.size, 0, none⟩ 1 1 [.slice fa fl fc] rfl rfl ?d1 ?d2 ?d3 ?d4 ?_)
      try (case d1 => exact news_ok _ _ _ _ rfl)
      case d2 => first | (intro u hu; simp at hu; subst hu; rfl) | exact ⟨rfl, rfl⟩ | rfl
      case d3 => unfold maxLen; omega
      case d4 => omega
      intro v7 w7 hown hgrow hwhere
      have H7 := hide ((unhide HM).push2 hown rfl hgrow hwhere)
      clear hown hgrow hwhere own2 HM
      go_wp2_with fail
      go_roundw
      case rel => exact ⟨i + 1, _, by omega, by go_num, unhide H7, unhide HL2⟩
      case measure => simp [intOf]; omega
    · have a1 : decide ((i : Int) < (l.length : Int)) = false := decide_eq_false (by omega)
      have a1n : decide (i < l.length) = false := decide_eq_false hil
      have e1 : (l.map Nd.files).take i = l.map Nd.files := List.take_of_length_le (by rw [List.length_map]; omega)
      rw [e1] at hL
      have hL2 := hL.snoc (unhide HA)
      have HL2 := hide hL2
      have HM := hide hM
      have own2 : wr.ownsRow 0 36 1 _ _ _ := hM.own
      obtain ⟨oa, oc, rfl⟩ := ownsRow_shape hM.own
      clear hM hL hL2 e1
      go_wp2_with (at_builtin; refine wpList_append2 _ rfl _ _ 203 rfl 36 i0 _ 1 24 Tryz.underlying203 hi0 hz0 hz1 hz2 rfl (by decide) _ _ _ rfl (own2.alloc _) ⟨wr.heap.size, 0, none⟩ 1 1 [.slice aa aux.length ac] rfl rfl ?e1 ?e2 ?e3 ?e4 ?_)
      try (case e1 => exact news_ok _ _ _ _ rfl)
      case e2 => first | (intro u hu; simp at hu; subst hu; rfl) | exact ⟨rfl, rfl⟩ | rfl
      case e3 => unfold maxLen; omega
      case e4 => omega
      intro v7 w7 hown hgrow hwhere
      have h7 := (unhide HM).push2 hown rfl hgrow hwhere
      have C8 := hide (aweight_any (h7.in_ (unhide HL2)) (unhide HS))
      have hwl := weightA_le (unhide HS)
      have HO7 := hide h7.ho
      have Hst : Hid (stayA l aux = weightA (l.map Nd.files ++ [aux]) + l.length + 1) := hide rfl
      clear hown hgrow hwhere own2 HM h7
      generalize weightA (l.map Nd.files ++ [aux]) = wt at *
      go_wp2_with fail
      refine (unhide C8).mono ?_
      rintro e w8 ⟨rfl, o8⟩
      have HO8 := hide ((unhide HO7).trans o8 (fun _ _ h => h))
      clear C8 o8
      go_wp2_with fail
      go_ret
      exact ⟨by rw [unhide Hst]; go_num, unhide HO8⟩
end
end Go.Proofs.Qxb6500417aGreat
