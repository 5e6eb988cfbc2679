/-
  OWN WORK. TXN: put (written by tools/gen_x6.py).
-/
import Derived.Test.Qxb6500412aGreatX5
import Derived.Deep.RegionLaw
import Derived.Deep.AppendLies
namespace Go.Proofs.Qxb6500412aGreat
open Go.RowKit Go.PlainAid
set_option linter.unusedSimpArgs false
set_option linter.unusedVariables false

theorem Tryz.infoXTChange : (Tryz.prog.info? 285).map (fun i => (i.zero, i.size, i.bytes)) = some (some (.agg #[.string ⟨#[]⟩, .bool false, .int .i64 0, .string ⟨#[]⟩, .bool false, .slice none 0 0]), 6, 80) := by kernel_rfl
def putW (l : List WCh) (p : Nat) (hit : Bool) (c : WCh) : List WCh := if hit = true then l.set p c else l.take p ++ c :: l.drop p
theorem putW_mem {l : List WCh} {p : Nat} {hit : Bool} {c e : WCh} (h : e ∈ putW l p hit c) : e ∈ l ∨ e = c := by
  unfold putW at h
  cases hit with
  | true =>
    rw [if_pos rfl] at h
    exact List.mem_or_eq_of_mem_set h
  | false =>
    rw [if_neg (by simp)] at h
    exact rmid_mem h
section
variable {w w' : World} {g t : Nat} {X : Xs} {s : Nat} {v' : Value} {l' : List WCh}
theorem XM.offU (M : XM w g t X) (hs : s < 4) {u : Value} {r : List Vl} (hu : OwnV w u r) {k : Nat} (hk : u.ownBlock = some k) : ¬ X.U g s k := fun e => by
  have hh : Has w g (tabV 27 (xcell t X)) 134 := M.has
  rcases e with e | e
  · exact ownsRow_ne hu hh (by decide) k hk e
  · obtain ⟨c, hc⟩ := ownsRow_has (M.ws s hs).own e
    exact ownsRow_ne hu hc (by decide) k hk rfl
/-- The list in memory behind a change of a session's words. -/
theorem XM.wl (M : XM w g t X) (hs : s < 4) (ho : Only (X.U g s) w w') {c : WCh} (hc : OwnV w c.u c.d.row) (own : w'.ownsRow 0 285 6 v' l'.length (wcs l')) (hm : ∀ e ∈ l', e ∈ X.ws s ∨ e = c) : WL w' v' l' :=
  ⟨own, fun e he => by
    rcases hm e he with h | h
    · exact ((M.ws s hs).row e h).keep ho (fun k hk => M.offU hs ((M.ws s hs).row e h) hk)
    · rw [h]; exact hc.keep ho (fun k hk => M.offU hs hc hk)⟩
/-- The word appended, ahead of the shift. -/
def ApP (w1 : World) (g t : Nat) (X : Xs) (s m kc : Nat) (cs : Array Value) (lf l2 : List WCh) (wx : World) : Prop := ∃ gg cap3, XH wx g t (X.setW s (.slice (some ⟨gg, 0, none⟩) (m + 1) cap3) lf) ∧ wx.ownsRow 0 285 6 (.slice (some ⟨gg, 0, none⟩) (m + 1) cap3) (m + 1) (wcs l2) ∧ ((X.wv s).ownBlock = some gg ∨ w1.heap.size ≤ gg) ∧ gg ≠ g ∧ gg ≠ kc ∧ Has wx kc cs 285 ∧ Only (X.U g s) w1 wx
/-- What put leaves. -/
def PtP (w : World) (g t : Nat) (X : Xs) (s : Nat) (c : WCh) (e : Ending) (w' : World) : Prop := ∃ v' n hit, e = .returned (.tuple #[]) ∧ FnR (X.ws s) c.d.tab c.d.key (n : Nat) hit ∧ XM w' g t (X.setW s v' (putW (X.ws s) n hit c)) ∧ (∀ k, v'.ownBlock = some k → (X.wv s).ownBlock = some k ∨ w.heap.size ≤ k) ∧ Only (X.U g s) w w'
set_option maxRecDepth 100000 in
set_option maxHeartbeats 8000000 in
theorem xput_any (M : XM w g t X) (hs : s < 4) (hl : (X.ws s).length ≤ 1000) (d : Wd) {ua : Option Addr} {un uc : Nat} (hu : OwnV w (.slice ua un uc) d.row) : Calls Tryz.prog 312 #[.pointer (some ⟨g, 0, none⟩), .int .i64 (s : Int), chA d (.slice ua un uc)] w (PtP w g t X s ⟨d, .slice ua un uc⟩) := by
  obtain ⟨i0, hi0, hz0, hz1, hz2⟩ := info_parts Tryz.infoXTChange
  have o0 : Only (fun _ => False) w (w.alloc (.cells #[.string d.tab, .bool d.key.str, .int .i64 d.key.i, .string d.key.s, .bool d.gone, .slice ua un uc] 285)) := (Only.refl _ w).alloc _
  have N0 := Has.new w #[.string d.tab, .bool d.key.str, .int .i64 d.key.i, .string d.key.s, .bool d.gone, .slice ua un uc] 285
  have M0 := M.quiet o0
  have C1 := xfind_any M0 hs hl d.tab d.key
  unfold vlA at C1
  have C1 := hide C1
  have HM := hide M
  have HM0 := hide M0
  have HU := hide hu
  have HO := hide o0
  have HN := hide N0
  have s4 : (s : Int) < 4 := by omega
  unfold chA
  clear M M0 hu o0 N0
  go_enter Tryz.func312, Tryz.ntmps312
  go_upto_region 1 with fail
  generalize w.alloc (.cells #[.string d.tab, .bool d.key.str, .int .i64 d.key.i, .string d.key.s, .bool d.gone, .slice ua un uc] 285) = w0 at *
  generalize hkc : w.heap.size = kc at *
  have x0 : w0.cell? ⟨kc, 0, none⟩ = some (.string d.tab) := (unhide HN).cell 0
  have x1 : w0.cell? ⟨kc, 1, none⟩ = some (.bool d.key.str) := (unhide HN).cell 1
  have x2 : w0.cell? ⟨kc, 2, none⟩ = some (.int .i64 d.key.i) := (unhide HN).cell 2
  have x3 : w0.cell? ⟨kc, 3, none⟩ = some (.string d.key.s) := (unhide HN).cell 3
  have x4 : w0.cell? ⟨kc, 4, none⟩ = some (.bool d.gone) := (unhide HN).cell 4
  have x5 : w0.cell? ⟨kc, 5, none⟩ = some (.slice ua un uc) := (unhide HN).cell 5
  go_wp2_with fail
  refine (unhide C1).mono ?_
  rintro e w1 ⟨p, hit, rfl, hf, o1⟩
  have HM1 := hide ((unhide HM0).quiet o1)
  have HO1 := hide ((unhide HO).trans o1 (fun _ _ h => h))
  have HN1 := hide ((unhide HN).keep o1 (fun h => h))
  have HF := hide hf
  have hN1 := (unhide HN1).lt
  have hs1 := (unhide HO1).size
  obtain ⟨n, rfl, hn, _, hcase⟩ := hf
  have W := (unhide HM1).ws s hs
  obtain ⟨a, cap, hwv⟩ := W.shape
  have c0 := (unhide HM1).has.wset hs
  have gl := (unhide HM1).has.lt
  rw [hwv] at W c0
  obtain ⟨m, hm⟩ : ∃ m, (X.ws s).length = m := ⟨_, rfl⟩
  rw [hm] at c0 hn hl
  have hnm : n ≤ m := hn
  have own1 : w1.ownsRow 0 285 6 (.slice a m cap) m (wcs (X.ws s)) := by have := W.own; rw [hm] at this; exact this
  have Hm := hide hm
  have Hwv := hide (show X.wv s = .slice a m cap by rw [hwv, hm])
  -- the end, whichever way
  have HE : Hid (∀ (wr : World) (b cap' m' : Nat) (l2 : List WCh) (hb : Bool), FnR (X.ws s) d.tab d.key (n : Int) hb → XH wr g t (X.setW s (.slice (some ⟨b, 0, none⟩) m' cap') (putW (X.ws s) n hb ⟨d, .slice ua un uc⟩)) → wr.ownsRow 0 285 6 (.slice (some ⟨b, 0, none⟩) m' cap') m' (wcs l2) → l2.set n ⟨d, .slice ua un uc⟩ = putW (X.ws s) n hb ⟨d, .slice ua un uc⟩ → l2.length = m' → ((X.wv s).ownBlock = some b ∨ w.heap.size ≤ b) → b ≠ g → Only (X.U g s) w wr → PtP w g t X s ⟨d, .slice ua un uc⟩ (.returned (.tuple #[])) (((((((wr.setCell ⟨b, n * 6, none⟩ (.string d.tab)).setCell ⟨b, n * 6 + 1, none⟩ (.bool d.key.str)).setCell ⟨b, n * 6 + 2, none⟩ (.int .i64 d.key.i)).setCell ⟨b, n * 6 + 3, none⟩ (.string d.key.s)).setCell ⟨b, n * 6 + 4, none⟩ (.bool d.gone)).setCell ⟨b, n * 6 + 5, none⟩ (.slice ua un uc)).drew)) := hide (fun wr b cap' m' l2 hb h1 h2 h3 h4 h5 h6 h7 h8 => by
    have o6 := wonly6 wr b n ⟨d, .slice ua un uc⟩
    have oF : Only (X.U g s) w (((((((wr.setCell ⟨b, n * 6, none⟩ (.string d.tab)).setCell ⟨b, n * 6 + 1, none⟩ (.bool d.key.str)).setCell ⟨b, n * 6 + 2, none⟩ (.int .i64 d.key.i)).setCell ⟨b, n * 6 + 3, none⟩ (.string d.key.s)).setCell ⟨b, n * 6 + 4, none⟩ (.bool d.gone)).setCell ⟨b, n * 6 + 5, none⟩ (.slice ua un uc)).drew) := (h8.trans o6 (fun k hk e => by
      have e' : k = b := e
      rcases h6 with c | c
      · exact .inr (by rw [e']; exact c)
      · omega)).drew
    have R6 := wset6 h3 n ⟨d, .slice ua un uc⟩
    rw [h4] at R6
    have hlen : (putW (X.ws s) n hb ⟨d, .slice ua un uc⟩).length = m' := by rw [← h4, List.length_set]; exact h5
    have hbb : ∀ k, (Value.slice (some ⟨b, 0, none⟩) m' cap').ownBlock = some k → (X.wv s).ownBlock = some k ∨ w.heap.size ≤ k := fun k hk => by
      simp [Value.ownBlock] at hk
      subst hk
      exact h6
    exact ⟨.slice (some ⟨b, 0, none⟩) m' cap', n, hb, rfl, h1, (unhide HM).setW hs oF ((h2.keep o6 (fun e => h7 (Eq.symm e))).keep ((Only.refl (fun _ => False) _).drew) (fun h => h)) ((unhide HM).wl hs oF (unhide HU) (by rw [hlen]; exact ownsRow_keep R6 ((Only.refl (fun _ => False) _).drew) (fun _ _ h => h)) (fun e he => putW_mem he)) hbb, hbb, oF⟩)
  clear C1 hn x0 x1 x2 x3 x4 x5 W hwv hm
  cases hit with
  | true =>
    rcases hcase with ⟨_, h⟩ | ⟨c, hc, hle, heq⟩
    · cases h
    clear hle heq
    obtain ⟨b, rfl, e0, e1, e2, e3, e4, e5⟩ := ((unhide HM1).ws s hs |> fun W => (by rw [unhide Hwv] at W; exact W : WL w1 (.slice a m cap) (X.ws s))).at_ hc
    have hnl : n < m := by rw [← unhide Hm]; exact (List.getElem?_eq_some_iff.mp hc).1
    have hnI : (n : Int) < (m : Int) := by omega
    obtain ⟨va, vc, hcu⟩ := (((unhide HM1).ws s hs).row c (List.mem_of_getElem? hc)).shape
    have hbg : b ≠ g := (unhide HM1).mg hs (by rw [unhide Hwv]; rfl)
    have hbl : b < w1.heap.size := ownsRow_lt own1 b rfl
    have FF := hide (unhide HE w1 b cap m (X.ws s) true (unhide HF) ((cast (congrArg (XH w1 g t) (show X = X.setW s (.slice (some ⟨b, 0, none⟩) m cap) (X.ws s) by
        cases X
        simp only [Xs.setW]
        congr 1
        · funext i; by_cases e : i = s
          · subst e; rw [if_pos rfl]; exact unhide Hwv
          · rw [if_neg e]
        · funext i; by_cases e : i = s
          · subst e; rw [if_pos rfl]
          · rw [if_neg e])) (unhide HM1).has : XH w1 g t (X.setW s (.slice (some ⟨b, 0, none⟩) m cap) (X.ws s)))) own1 (by unfold putW; rw [if_pos rfl]) (unhide Hm) (.inl (by rw [unhide Hwv]; rfl)) hbg ((unhide HO1).mono (fun _ _ h => h.elim)))
    have f0 := gownFree own1 (n * 6)
    have f1 := gownFree own1 (n * 6 + 1)
    have f2 := gownFree own1 (n * 6 + 2)
    have f3 := gownFree own1 (n * 6 + 3)
    have f4 := gownFree own1 (n * 6 + 4)
    have f5 := gownFree own1 (n * 6 + 5)
    have x0 : w1.cell? ⟨kc, 0, none⟩ = some (.string d.tab) := (unhide HN1).cell 0
    have x1 : w1.cell? ⟨kc, 1, none⟩ = some (.bool d.key.str) := (unhide HN1).cell 1
    have x2 : w1.cell? ⟨kc, 2, none⟩ = some (.int .i64 d.key.i) := (unhide HN1).cell 2
    have x3 : w1.cell? ⟨kc, 3, none⟩ = some (.string d.key.s) := (unhide HN1).cell 3
    have x4 : w1.cell? ⟨kc, 4, none⟩ = some (.bool d.gone) := (unhide HN1).cell 4
    have x5 : w1.cell? ⟨kc, 5, none⟩ = some (.slice ua un uc) := (unhide HN1).cell 5
    clear own1 hc hcu HE
    go_upto_region 8 with fail
    go_region
    all_goals
      go_wp2_with fail
      go_end0
      exact unhide FF
  | false =>
    have hgw : g < w.heap.size := (unhide HM).has.lt
    have hne1 : (Value.slice a m cap).ownBlock ≠ some g := fun e => (unhide HM1).mg hs (by rw [unhide Hwv]; exact e) rfl
    have hne2 : (Value.slice a m cap).ownBlock ≠ some kc := fun e => by have := ((unhide HM).ws s hs).lt kc (.inl (by rw [unhide Hwv]; exact e)); omega
    have A1 : XH ((w1.alloc (.cells #[.string d.tab, .bool d.key.str, .int .i64 d.key.i, .string d.key.s, .bool d.gone, .slice ua un uc] 285)).drew) g t X := ((unhide HM1).has.keep ((Only.refl (fun _ => False) w1).alloc _) (fun h => h)).keep ((Only.refl (fun _ => False) _).drew) (fun h => h)
    have z1 : ((w1.alloc (.cells #[.string d.tab, .bool d.key.str, .int .i64 d.key.i, .string d.key.s, .bool d.gone, .slice ua un uc] 285)).drew).cell? ⟨g, 23 + s, none⟩ = some (.slice a m cap) := by rw [A1.wset hs, unhide Hwv]
    have z1f := A1.fr (23 + s)
    have l5 : m + 1 ≤ maxLen := by unfold maxLen; omega
    have HPP : Hid (∀ (gg cap3 : Nat) (w3 : World), w3.ownsRow 0 285 6 (.slice (some ⟨gg, 0, none⟩) (m + 1) cap3) (m + 1) (wcs (X.ws s) ++ [.string d.tab, .bool d.key.str, .int .i64 d.key.i, .string d.key.s, .bool d.gone, .slice ua un uc]) → ((w1.alloc (.cells #[.string d.tab, .bool d.key.str, .int .i64 d.key.i, .string d.key.s, .bool d.gone, .slice ua un uc] 285)).drew).grownBy w3 (Value.slice a m cap).ownBlock → ((Value.slice a m cap).ownBlock = some gg ∨ gg = w1.heap.size + 1) → ApP w1 g t X s m kc #[.string d.tab, .bool d.key.str, .int .i64 d.key.i, .string d.key.s, .bool d.gone, .slice ua un uc] (putW (X.ws s) n false ⟨d, .slice ua un uc⟩) (X.ws s ++ [⟨d, .slice ua un uc⟩]) (w3.setCell ⟨g, 23 + s, none⟩ (.slice (some ⟨gg, 0, none⟩) (m + 1) cap3))) := hide (fun gg cap3 w3 h1 h2 h3 => by
      have oB : Only (fun k => (Value.slice a m cap).ownBlock = some k) w1 w3 := (((Only.refl (fun k => (Value.slice a m cap).ownBlock = some k) w1).alloc _).drew).grown h2 (fun k hk _ => hk)
      have hgg : gg ≠ g := fun e => by
        rcases h3 with c | c
        · exact hne1 (by rw [c, e])
        · have := gl; omega
      have hgk : gg ≠ kc := fun e => by
        rcases h3 with c | c
        · exact hne2 (by rw [c, e])
        · omega
      have o7 : Only (fun k => k = g) w3 (w3.setCell ⟨g, 23 + s, none⟩ (.slice (some ⟨gg, 0, none⟩) (m + 1) cap3)) := only1 _ _
      refine ⟨gg, cap3, ((unhide HM1).has.keep oB hne1).setW hs _ _, ?_, ?_, hgg, hgk, ((unhide HN1).keep oB hne2).keep o7 (fun e => by have e' : kc = g := e; omega), (oB.mono (T := X.U g s) (fun k _ hk => .inr (by rw [unhide Hwv]; exact hk))).trans o7 (fun k _ e => .inl e)⟩
      · rw [wcs_app]
        exact ownsRow_keep h1 o7 (fun k hk e => by simp [Value.ownBlock] at hk; have e' : k = g := e; omega)
      · rcases h3 with c | c
        · exact .inl (by rw [unhide Hwv]; exact c)
        · exact .inr (by omega))
    have x0 : w1.cell? ⟨kc, 0, none⟩ = some (.string d.tab) := (unhide HN1).cell 0
    have x1 : w1.cell? ⟨kc, 1, none⟩ = some (.bool d.key.str) := (unhide HN1).cell 1
    have x2 : w1.cell? ⟨kc, 2, none⟩ = some (.int .i64 d.key.i) := (unhide HN1).cell 2
    have x3 : w1.cell? ⟨kc, 3, none⟩ = some (.string d.key.s) := (unhide HN1).cell 3
    have x4 : w1.cell? ⟨kc, 4, none⟩ = some (.bool d.gone) := (unhide HN1).cell 4
    have x5 : w1.cell? ⟨kc, 5, none⟩ = some (.slice ua un uc) := (unhide HN1).cell 5
    clear A1 hcase
    go_upto_region 3 with fail
    go_cut [] from 21 to 34 (fun wx => ApP w1 g t X s m kc #[.string d.tab, .bool d.key.str, .int .i64 d.key.i, .string d.key.s, .bool d.gone, .slice ua un uc] (putW (X.ws s) n false ⟨d, .slice ua un uc⟩) (X.ws s ++ [⟨d, .slice ua un uc⟩]) wx)
    case first =>
      go_region_law
        ((refine step_append_lies _ (by rfl) _ _ _ (by rfl) 0 285 i0 _ 6 80 Tryz.underlying131 hi0 hz0 hz1 hz2 rfl (by omega) (.slice a m cap) m (wcs (X.ws s)) (by rfl) ((own1.alloc _).drew) ⟨w1.heap.size, 0, none⟩ 1 1 [.string d.tab, .bool d.key.str, .int .i64 d.key.i, .string d.key.s, .bool d.gone, .slice ua un uc] (by rfl) (by rfl) (World.news_of_block (cs := #[.string d.tab, .bool d.key.str, .int .i64 d.key.i, .string d.key.s, .bool d.gone, .slice ua un uc]) (t := 285) (fr := (0, 0)) (heap_alloc_new w1 _)) (by simp [Value.oneCell']) (by omega) l5 (by omega) (by simp) (w1.heap.size + 1) (by simp) ?_; intro gg cap3 w3 hown1 hgrow hat hlt3; have y3 := (hgrow.cell_far ⟨g, 23 + s, none⟩ (by simp; omega) (Ne.symm hne1)).trans z1; have yz := (hgrow.frozen_far ⟨g, 23 + s, none⟩ (by simp; omega) (Ne.symm hne1)).trans z1f))
      all_goals
        have HP := hide (unhide HPP gg cap3 w3 hown1 hgrow hat)
        clear hown1 hgrow hat y3 yz hlt3
        go_wp2_with fail
        go_meet
        exact unhide HP
    case rest =>
    obtain ⟨gg, cap3, hX5, R5, hgo, hgg, hgk, hk5, o5⟩ := hcut
    generalize wc = w5 at *
    have c5 : w5.cell? ⟨g, 23 + s, none⟩ = some (.slice (some ⟨gg, 0, none⟩) (m + 1) cap3) := by
      rw [hX5.wset hs]
      show some (if s = s then _ else _) = _
      rw [if_pos rfl]
    have gl5 := hX5.lt
    have HX5 := hide hX5
    have HR5 := hide R5
    have HK5 := hide hk5
    have HO5 := hide o5
    have Hgo := hide hgo
    have hwn : IntKind.i64.wrap (((m + 1 : Nat) : Int) - 1) = (m : Int) := by rw [IntWalk.i64_in] <;> omega
    have hwn' : IntKind.i64.wrap ((m : Int) + 1 - 1) = (m : Int) := by rw [IntWalk.i64_in] <;> omega
    clear hX5 R5 hk5 o5 hgo x0 x1 x2 x3 x4 x5 z1 z1f own1 HPP c0
    go_upto_region 5 with fail
    go_loopw [8] (fun jv wr => ∃ (j : Nat) (y : WCh), jv = .int .i64 j ∧ n ≤ j ∧ j ≤ m ∧ wr.ownsRow 0 285 6 (.slice (some ⟨gg, 0, none⟩) (m + 1) cap3) (m + 1) (wcs ((X.ws s).take j ++ y :: (X.ws s).drop j)) ∧ Only (fun k => k = gg) w5 wr) (fun jv _ => (intOf jv).toNat)
    case atStart =>
      refine ⟨m, ⟨d, .slice ua un uc⟩, rfl, hnm, Nat.le_refl _, ?_, Only.refl _ _⟩
      have hul := unhide Hm
      rw [List.take_of_length_le (by omega), List.drop_of_length_le (by omega)]
      exact unhide HR5
    case round =>
      obtain ⟨j, y, rfl, hpj, hjn, R, oW⟩ := hrel
      have cW := cell_keepX c5 oW hgg.symm
      have hul := unhide Hm
      by_cases hj : n < j
      · have dj : decide ((j : Int) > (n : Int)) = true := decide_eq_true (by omega)
        have dj' : decide ((n : Int) < (j : Int)) = true := decide_eq_true (by omega)
        have djn : decide (n < j) = true := decide_eq_true hj
        obtain ⟨k, hjk⟩ : ∃ k, j = k + 1 := ⟨j - 1, by omega⟩
        obtain ⟨x, hx⟩ := getE (l := X.ws s) (i := k) (by omega)
        obtain ⟨sa, sc, hsu⟩ := (((unhide HM).ws s hs).row x (List.mem_of_getElem? hx)).shape
        obtain ⟨e0, e1, e2, e3, e4, e5⟩ := wcell6 R (j := k) (x := x) (by rw [rmid_get (by omega), if_pos (by omega)]; exact hx)
        obtain ⟨d0, d1, d2, d3, d4, d5⟩ := wcell6 R (j := j) (x := y) (by rw [rmid_get (by omega), if_neg (by omega), if_pos rfl])
        have f0 := gownFree R (j * 6)
        have f1 := gownFree R (j * 6 + 1)
        have f2 := gownFree R (j * 6 + 2)
        have f3 := gownFree R (j * 6 + 3)
        have f4 := gownFree R (j * 6 + 4)
        have f5 := gownFree R (j * 6 + 5)
        have R2 := wset6 R j x
        have o6 := wonly6 wr gg j x
        have R3 : (((((((wr.setCell ⟨gg, j * 6, none⟩ (.string x.d.tab)).setCell ⟨gg, j * 6 + 1, none⟩ (.bool x.d.key.str)).setCell ⟨gg, j * 6 + 2, none⟩ (.int .i64 x.d.key.i)).setCell ⟨gg, j * 6 + 3, none⟩ (.string x.d.key.s)).setCell ⟨gg, j * 6 + 4, none⟩ (.bool x.d.gone)).setCell ⟨gg, j * 6 + 5, none⟩ x.u)).ownsRow 0 285 6 (.slice (some ⟨gg, 0, none⟩) (m + 1) cap3) (m + 1) (wcs ((X.ws s).take k ++ x :: (X.ws s).drop k)) := by
          have hst := rmid_step (l := X.ws s) (j := k) (x := x) (y := y) (by omega) hx
          rw [← hjk] at hst
          rw [← hst]
          exact R2
        rw [hsu] at e5 R3 o6
        obtain ⟨xn, hxn⟩ : ∃ k, x.d.row.length = k := ⟨_, rfl⟩
        rw [hxn] at e5 R3 o6
        have HR := hide (And.intro (ownsRow_keep R3 ((Only.refl (fun _ => False) _).drew) (fun _ _ h => h)) ((oW.trans o6 (fun _ _ h => h)).drew))
        have hk' : k = j - 1 := by omega
        rw [hk'] at e0 e1 e2 e3 e4 e5
        obtain ⟨q, hq⟩ : ∃ q, m + 1 = q := ⟨_, rfl⟩
        rw [hq] at cW
        have hjm : (j : Int) < (q : Int) := by omega
        have hj1 : (j : Int) - 1 < (q : Int) := by omega
        have hj0 : (0 : Int) ≤ (j : Int) - 1 := by omega
        have HJK := hide (And.intro hjk hj)
        clear R R2 R3 oW o6 hx hsu hxn hj hjk hk' hq hwn hwn'
        go_upto_region 7 with fail
        go_region
        go_wp2_with fail
        go_roundw
        case rel => exact ⟨k, _, by rw [(unhide HJK).1]; go_num, by have := unhide HJK; omega, by have := unhide HJK; omega, (unhide HR).1, (unhide HR).2⟩
        case measure => have := unhide HJK; simp [intOf]; omega
      · obtain rfl : j = n := by omega
        have dj : decide ((j : Int) > (j : Int)) = false := decide_eq_false (by omega)
        have dj' : decide ((j : Int) < (j : Int)) = false := decide_eq_false (by omega)
        have hjI : (j : Int) < ((m + 1 : Nat) : Int) := by omega
        have hjI' : (j : Int) < (m : Int) + 1 := by omega
        obtain ⟨d0, d1, d2, d3, d4, d5⟩ := wcell6 R (j := j) (x := y) (by rw [rmid_get (by omega), if_neg (by omega), if_pos rfl])
        have f0 := gownFree R (j * 6)
        have f1 := gownFree R (j * 6 + 1)
        have f2 := gownFree R (j * 6 + 2)
        have f3 := gownFree R (j * 6 + 3)
        have f4 := gownFree R (j * 6 + 4)
        have f5 := gownFree R (j * 6 + 5)
        have hkW := (unhide HK5).keep oW (fun e => hgk (Eq.symm e))
        have HKW := hide hkW
        have FF := hide (unhide HE wr gg cap3 (m + 1) ((X.ws s).take j ++ y :: (X.ws s).drop j) false (unhide HF) ((unhide HX5).keep oW (fun e => hgg (Eq.symm e))) R (by rw [rmid_set (by omega)]; rfl) (by rw [rmid_len (by omega), hul]) (by rcases unhide Hgo with c | c; exact .inl c; exact .inr (by omega)) hgg ((((unhide HO1).mono (T := X.U g s) (fun _ _ h => h.elim)).trans (unhide HO5) (fun _ _ h => h)).trans oW (fun k hk e => by
          have e' : k = gg := e
          rcases unhide Hgo with c | c
          · exact .inr (by rw [e']; exact c)
          · omega)))
        have x0 : wr.cell? ⟨kc, 0, none⟩ = some (.string d.tab) := (unhide HKW).cell 0
        have x1 : wr.cell? ⟨kc, 1, none⟩ = some (.bool d.key.str) := (unhide HKW).cell 1
        have x2 : wr.cell? ⟨kc, 2, none⟩ = some (.int .i64 d.key.i) := (unhide HKW).cell 2
        have x3 : wr.cell? ⟨kc, 3, none⟩ = some (.string d.key.s) := (unhide HKW).cell 3
        have x4 : wr.cell? ⟨kc, 4, none⟩ = some (.bool d.gone) := (unhide HKW).cell 4
        have x5 : wr.cell? ⟨kc, 5, none⟩ = some (.slice ua un uc) := (unhide HKW).cell 5
        clear R oW hkW HE
        go_upto_region 8 with fail
        go_region
        all_goals
          go_wp2_with fail
          go_end0
          exact unhide FF
end
end Go.Proofs.Qxb6500412aGreat
