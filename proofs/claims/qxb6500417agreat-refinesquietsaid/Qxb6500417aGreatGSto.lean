/-
  OWN WORK. THE GRAPH: store.
-/
import Derived.Test.Qxb6500417aGreatGP3
import Derived.Test.Qxb6500417aGreatGRt
import Derived.Test.Qxb6500417aGreatGSv
import Derived.Lib.ConvBytes
import Derived.Deep.RegionHeldLaw
namespace Go.Proofs.Qxb6500417aGreat
open Go.RowKit Go.PlainAid
set_option linter.unusedSimpArgs false
set_option linter.unusedVariables false

theorem byL_at (s : ByteArray) (j : Nat) (hj : j < s.size) : dF (byL s) j = (s.data.toList.getD j 0).toNat := by
  have hj' : j < s.data.size := hj
  simp only [dF, byL, List.getD]
  rw [List.getElem?_map, Array.getElem?_toList, Array.getElem?_eq_getElem hj']
  rfl
theorem conv_any (w : World) (s : ByteArray) : ∃ W cap, (convert 9 90 (.string s)).run Tryz.prog w = .ok (.slice (some ⟨w.heap.size, 0, none⟩) s.size cap) W ∧ BytesAt W (.slice (some ⟨w.heap.size, 0, none⟩) s.size cap) (byL s).length (dF (byL s)) ∧ Only (fun _ => False) w W ∧ w.heap.size < W.heap.size := by
  refine ⟨_, _, Go.Lib.run_convert_string_bytes w 9 90 5 s Tryz.underlying9 Tryz.underlying90 Tryz.underlying5, ?_, ?_, ?_⟩
  · rw [byL_len]
    refine ⟨_, _, rfl, fun hn => ⟨_, rfl, fun j hj => ?_⟩⟩
    rw [byL_at s j hj]
    exact Go.Lib.bytesWorld_cell w 5 s j hj
  · exact ⟨rfl, rfl, rfl, by rw [Go.Lib.bytesWorld_size]; omega, fun k hk _ => Go.Lib.bytesWorld_at_old w 5 s k hk⟩
  · rw [Go.Lib.bytesWorld_size]; omega
/-- The entries that are laid so far, in the list that store makes. -/
structure EPart (cur : Array Value) (n : Nat) (acc : List En) : Prop where
  sz : cur.size = n * 3
  at_ : ∀ j (h : j < acc.length), cur[j * 3]? = some (.string (sb acc[j].path)) ∧ cur[j * 3 + 1]? = some (.int .i64 acc[j].id) ∧ cur[j * 3 + 2]? = some (.int .i64 acc[j].mode)
theorem EPart.cell {cur : Array Value} {n : Nat} {acc : List En} (h : EPart cur n acc) {k : Nat} (hk : k < n * 3) : ∃ u, cur[k]? = some u := ⟨_, Array.getElem?_eq_getElem (by rw [h.sz]; exact hk)⟩
theorem EPart.set {cur : Array Value} {n : Nat} {acc : List En} (h : EPart cur n acc) {i : Nat} (hi : i < n) (ha : acc.length = i) (e : En) : EPart (((cur.setIfInBounds (i * 3) (.string (sb e.path))).setIfInBounds (i * 3 + 1) (.int .i64 e.id)).setIfInBounds (i * 3 + 2) (.int .i64 e.mode)) n (acc ++ [e]) := by
  have hs := h.sz
  refine ⟨by simp [hs], fun j hj => ?_⟩
  rw [List.length_append, List.length_singleton] at hj
  by_cases e1 : j = i
  · subst e1
    have : (acc ++ [e])[j]'(by simp; omega) = e := by simp [← ha]
    rw [this]
    simp only [Array.getElem?_setIfInBounds, hs, Array.size_setIfInBounds]
    refine ⟨?_, ?_, ?_⟩
    · rw [if_neg (by omega), if_neg (by omega), if_pos trivial, if_pos (by omega)]
    · rw [if_neg (by omega), if_pos trivial, if_pos (by omega)]
    · rw [if_pos trivial, if_pos (by omega)]
  · have hj' : j < acc.length := by omega
    have : (acc ++ [e])[j]'(by simp; omega) = acc[j] := by rw [List.getElem_append_left hj']
    rw [this]
    obtain ⟨a, b, c⟩ := h.at_ j hj'
    simp only [Array.getElem?_setIfInBounds, hs, Array.size_setIfInBounds]
    refine ⟨?_, ?_, ?_⟩
    · rw [if_neg (by omega), if_neg (by omega), if_neg (by omega)]; exact a
    · rw [if_neg (by omega), if_neg (by omega), if_neg (by omega)]; exact b
    · rw [if_neg (by omega), if_neg (by omega), if_neg (by omega)]; exact c
theorem EPart.in_ {w : World} {k : Nat} {cur : Array Value} {n : Nat} {acc : List En} (h : EPart cur n acc) (hn : acc.length = n) (hk : Has w k cur 184) : EntsIn w (.slice (some ⟨k, 0, none⟩) n n) acc := by
  refine ⟨some ⟨k, 0, none⟩, n, by rw [hn], fun _ => ⟨k, rfl, fun i hi => ?_⟩⟩
  obtain ⟨a, b, c⟩ := h.at_ i hi
  exact ⟨by rw [hk.cell]; exact a, by rw [hk.cell]; exact b, by rw [hk.cell]; exact c⟩
theorem run_make_ents (w : World) (n : Nat) (hn : n ≤ 1000) : ∃ cur : Array Value, EPart cur n [] ∧ (Instr.makeSlice 181 (.int .i64 n) (.int .i64 n)).run Tryz.prog w = .ok (.slice (some ⟨w.heap.size, 0, none⟩) n n) (w.alloc (.cells cur 184)) := by
  obtain ⟨i, hi, hz, hs, hb⟩ := info_parts Tryz.infoEntry
  have := run_make (P := Tryz.prog) w 181 184 i _ Tryz.underlying181 hi hz .i64 .i64 (n : Int) (n : Int) (by omega) (by omega) (by rw [hb]; omega) (by omega)
  refine ⟨_, ⟨?_, fun j hj => absurd hj (by simp)⟩, this⟩
  simp [madeCells, Value.cells, hs]
theorem putJ_err (J : Nat → Sl) (k : Nat) (dat : List Nat) : (putJ J k dat).2.2 = 0 ∨ (putJ J k dat).2.2 = 5 := by
  cases putC J k dat with
  | old i e => rw [e]; exact .inl rfl
  | new i e => rw [e]; exact .inl rfl
  | full e => rw [e]; exact .inr rfl
theorem putJ_lo (J : Nat → Sl) (k : Nat) (dat : List Nat) : (putJ J k dat).2.1 ≤ 48 := by
  cases putC J k dat with
  | old i e hi => rw [e]; exact hi.2
  | new i e hi => rw [e]; exact hi.2
  | full e => rw [e]; show 0 ≤ 48; omega
section
variable {w : World} {g t s d : Nat} {D B : Nat → Nat} {recs : List Rec} {J : Nat → Sl} {rt : Nat} {F : Nat → Prop} {T : Gt}
set_option maxRecDepth 100000 in
set_option maxHeartbeats 4000000 in
theorem gstore_any (h : TS w t s d D B recs J rt F) (hG : GH w g t T) (hA : Apart g t s F) (v : Value) (l : List Fl) (hv : FilesIn w v l) (hl8 : l.length ≤ 8) (hd : ∀ f ∈ l, f.data.size ≤ 180) (hvF : ∀ y, v.ownBlock = some y → y ≠ t ∧ y ≠ s ∧ ¬ F y) (hpot : recs.length + 3 * frJ J ≤ 850) :
    Calls Tryz.prog 140 #[.pointer (some ⟨g, 0, none⟩), v] w fun e w' => e = .returned (.tuple #[.int .i64 ((storeJ J l).2.1 : Nat), .int .i64 ((storeJ J l).2.2 : Nat)]) ∧ ∃ news F', Wrote w w' t s d D B recs J (storeJ J l).1 rt F news F' := by
  obtain ⟨va, vc, rfl, hc⟩ := hv
  obtain ⟨cur0, hE0, hmk⟩ := run_make_ents w l.length (by omega)
  obtain ⟨t1, t2, t3⟩ := h.ts_lt
  have hgl := hG.lt
  have hk0 := Has.new w cur0 184
  have ho0 := (Only.refl (fun _ => False) w).alloc (.cells cur0 184)
  have hv' : FilesIn w (.slice va l.length vc) l := ⟨va, vc, rfl, hc⟩
  have hW0 := hide (Wrote.none h (h.quiet ho0) (ho0.mono (fun _ _ h => h.elim)))
  have Hv := hide hv'
  have HG := hide hG
  have HA := hide hA
  have HE0 := hide hE0
  have HK0 := hide hk0
  have Hd := hide hd
  have HvF := hide hvF
  have T3 := hide t3
  have O0 := hide ho0
  clear h hG hA hE0 hk0 ho0 hv' hc hd t3 hvF
  go_enter Tryz.func140, Tryz.ntmps140
  go_wp2_with fail
  generalize hW1 : w.alloc (.cells cur0 184) = W1 at *
  go_loopw [7] (fun iv wr => ∃ (i : Nat) (acc : List En) (Ji : Nat → Sl) (news : List Rec) (F' : Nat → Prop) (cur : Array Value), iv = .int .i64 i ∧ i ≤ l.length ∧ acc.length = i ∧ stJ J l [] = stJ Ji (l.drop i) acc ∧ Wrote w wr t s d D B recs J Ji rt F news F' ∧ EPart cur l.length acc ∧ Has wr w.heap.size cur 184 ∧ ¬ F' w.heap.size) (fun iv _ => l.length - (intOf iv).toNat)
  case atStart => exact ⟨0, [], J, [], F, cur0, rfl, by omega, rfl, rfl, unhide hW0, unhide HE0, unhide HK0, fun e => by have := unhide T3 _ e; omega⟩
  case round =>
    clear hW0 HE0 HK0
    obtain ⟨i, acc, Ji, news, F', cur, rfl, hi, hacc, hst, hWr, hE, hK, hKF⟩ := hrel
    have hoF : ∀ y, y = t ∨ y = s ∨ F y → y < w.heap.size := fun y hy => by
      rcases hy with e | e | e
      · omega
      · omega
      · exact unhide T3 y e
    have hvr : FilesIn wr (.slice va l.length vc) l := (unhide Hv).keep hWr.only (fun y hy e => by
      have := unhide HvF y hy
      rcases e with e | e | e
      · exact this.1 e
      · exact this.2.1 e
      · exact this.2.2 e)
    have hGr : GH wr g t T := (unhide HG).keep hWr.only (fun e => by
      rcases e with e | e | e
      · exact (unhide HA).nt e
      · exact (unhide HA).ns e
      · exact (unhide HA).nF e)
    have e1 := hGr.tr.1
    by_cases hil : i < l.length
    · have a1 : decide ((i : Int) < (l.length : Int)) = true := decide_eq_true (by omega)
      have a1n : decide (i < l.length) = true := decide_eq_true hil
      have a2 : (i : Int) < (l.length : Int) := by omega
      obtain ⟨ga, gc, hvv, hcc⟩ : ∃ g0 c0, (Value.slice va l.length vc) = .slice (some ⟨g0, 0, none⟩) l.length c0 ∧ ∀ j (h : j < l.length), wr.cell? ⟨g0, j * 3, none⟩ = some (.string l[j].path) ∧ wr.cell? ⟨g0, j * 3 + 1, none⟩ = some (.string l[j].data) ∧ wr.cell? ⟨g0, j * 3 + 2, none⟩ = some (.int .i64 l[j].mode) := by
        obtain ⟨a', c', e', h2⟩ := hvr
        obtain ⟨g0, rfl, hh⟩ := h2 (by omega)
        exact ⟨g0, c', e', hh⟩
      obtain ⟨rfl, _, rfl⟩ : va = some ⟨ga, 0, none⟩ ∧ True ∧ vc = gc := by simpa using hvv
      clear hvv
      obtain ⟨x0, x1, x2⟩ := hcc i hil
      have hfd := unhide Hd l[i] (List.getElem_mem hil)
      have hdr : l.drop i = l[i] :: l.drop (i + 1) := List.drop_eq_getElem_cons hil
      rw [hdr] at hst
      obtain ⟨W, cap, hcv, hB, hOW, hsW⟩ := conv_any wr.drew l[i].data
      have hOWr : Only (fun _ => False) wr W := (Only.refl (fun _ => False) wr).drew.trans hOW (fun _ _ h => h)
      have hTW := hWr.ts.quiet hOWr
      have hGW := hGr.quiet hOWr
      obtain ⟨q1, q2, q3⟩ := hWr.ts.ts_lt
      have hgaw : ga < wr.heap.size := World.block_lt_of_cell? wr _ x0
      have hbW := hOWr.block ga hgaw (fun h => h)
      have hlen := byL_len l[i].data
      have C1 := tput_any hTW 1 (by omega) (by omega) (by omega) (byL l[i].data) (.slice (some ⟨wr.drew.heap.size, 0, none⟩) l[i].data.size cap) (by rw [hlen] at hB ⊢; exact hB) (by omega) (dF_lt (byL_lt _)) (fun y hy => by
        have : wr.drew.heap.size = y := by simpa [Value.ownBlock] using hy
        have e2 : wr.drew.heap.size = wr.heap.size := by simp
        exact ⟨fun hf => by have := q3 y hf; omega, by omega⟩) (by
          have := hWr.pot
          rw [List.length_append]
          omega)
      have edr : wr.drew.heap.size = wr.heap.size := by simp
      rw [edr] at C1 hcv
      clear edr
      have C1 := hide C1
      have d1 := hGW.tr.1
      have d2 := (World.cell?_of_block hbW).trans x1
      have hxo : Hid (∀ (w2 : World) (n2 : List Rec) (F2 : Nat → Prop) (K2 : Nat → Sl), Wrote W w2 t s d (replayB D news) B (recs ++ news) Ji K2 rt F' n2 F2 → w2.cell? ⟨g, 0, none⟩ = some (.pointer (some ⟨t, 0, none⟩)) ∧ w2.cell? ⟨ga, i * 3 + 1, none⟩ = some (.string l[i].data) ∧ (w2.cell? ⟨ga, i * 3, none⟩ = some (.string l[i].path) ∧ w2.cell? ⟨ga, i * 3 + 2, none⟩ = some (.int .i64 l[i].mode)) ∧ Wrote w w2 t s d D B recs J K2 rt F (news ++ n2) F2 ∧ Has w2 w.heap.size cur 184 ∧ ¬ F2 w.heap.size) := hide (fun w2 n2 F2 K2 hw2 => by
        have hall := hWr.trans (Wrote.first hOWr hw2)
        have hsr := hWr.only.size
        have hgv := unhide HvF ga rfl
        have hgaF : ¬ (ga = t ∨ ga = s ∨ F ga) := fun e => by
          rcases e with e | e | e
          · exact hgv.1 e
          · exact hgv.2.1 e
          · exact hgv.2.2 e
        have hgal : ga < w.heap.size := by
          obtain ⟨a', c', e', h2⟩ := unhide Hv
          obtain ⟨g0, e3, hh⟩ := h2 (by omega)
          obtain ⟨rfl, _, _⟩ : some (⟨ga, 0, none⟩ : Addr) = a' ∧ True ∧ vc = c' := by simpa using e'
          obtain rfl : ga = g0 := by simpa using e3
          exact World.block_lt_of_cell? w _ (hh 0 (by omega)).1
        have hga2 : ¬ (ga = t ∨ ga = s ∨ F' ga) := fun e => by
          rcases e with e | e | e
          · exact hgv.1 e
          · exact hgv.2.1 e
          · rcases hWr.ext ga e with e | e
            · exact hgv.2.2 e
            · omega
        have hb2 := hw2.only.block ga (by have := hOWr.size; omega) hga2
        refine ⟨((unhide HG).keep hall.only (fun e => by
          rcases e with e | e | e
          · exact (unhide HA).nt e
          · exact (unhide HA).ns e
          · exact (unhide HA).nF e)).tr.1, (World.cell?_of_block hb2).trans d2, ⟨(World.cell?_of_block hb2).trans ((World.cell?_of_block hbW).trans x0), (World.cell?_of_block hb2).trans ((World.cell?_of_block hbW).trans x2)⟩, hall, (hK.keep hOWr (fun h => h)).keep hw2.only (fun e => ?_), fun e => ?_⟩
        · rcases e with e | e | e
          · omega
          · omega
          · exact hKF e
        · rcases hw2.ext _ e with e | e
          · exact hKF e
          · have := hOWr.size
            have := Has.lt hK
            omega)
      have e2' : wr.drew.cell? ⟨ga, i * 3 + 1, none⟩ = some (.string l[i].data) := by simpa using x1
      have e1' : wr.drew.cell? ⟨g, 0, none⟩ = some (.pointer (some ⟨t, 0, none⟩)) := by simpa using e1
      have Hst := hide hst
      have HE := hide hE
      have Hwl := hide (And.intro hWr.only.size (Has.lt hK))
      have hk2 := hE.cell (k := i * 3) (by omega)
      have hk3 := hE.cell (k := i * 3 + 1) (by omega)
      have hk4 := hE.cell (k := i * 3 + 2) (by omega)
      obtain ⟨u0, hu0⟩ := hk2
      obtain ⟨u1, hu1⟩ := hk3
      obtain ⟨u2, hu2⟩ := hk4
      clear hst hTW hGW hbW hB hOW hsW hOWr hvr hGr hcc hWr hE hK hKF hdr hoF hlen x0 x2 q3
      generalize hdat : l[i].data = dat at *
      generalize hpat : l[i].path = pat at *
      generalize hmod : l[i].mode = mod at *
      go_upto_region 5 with fail
      go_region_held_law (fun w' => w'.cell? ⟨g, 0, none⟩ = some (.pointer (some ⟨t, 0, none⟩)) ∧ w'.cell? ⟨ga, i * 3 + 1, none⟩ = some (.string dat)) (first | exact ⟨e1, x1⟩ | exact ⟨e1', e2'⟩ | exact ⟨d1, d2⟩ | exact ⟨z1, z2⟩)
        (first | (go_at_call 119; refine (unhide C1).mono ?_; rintro e w2 ⟨rfl, n2, F2, hw2⟩; have hz := unhide hxo w2 n2 F2 _ hw2; have z1 := hz.1; have z2 := hz.2.1; have Hz := hide hz.2.2; clear hz hw2))
      have hP := (unhide Hz).2.1.ts.inv
      obtain ⟨hfl, hwr2, hk2, hnf2⟩ := unhide Hz
      clear Hz hxo C1 e1 x1 e1' e2' d1 d2 hcv
      have hdef : stJ Ji (l[i] :: l.drop (i + 1)) acc = if (putJ Ji 1 (byL dat)).2.2 = 0 then stJ (putJ Ji 1 (byL dat)).1 (l.drop (i + 1)) (acc ++ [⟨ls pat, ((putJ Ji 1 (byL dat)).2.1 : Nat), mod⟩]) else ((putJ Ji 1 (byL dat)).1, acc, (putJ Ji 1 (byL dat)).2.2) := by
        rw [← hdat, ← hpat, ← hmod]; rfl
      have Hdef := hide hdef
      clear hdef hdat hpat hmod hP
      have hlo := putJ_lo Ji 1 (byL dat)
      have hres := putJ_err Ji 1 (byL dat)
      generalize putJ Ji 1 (byL dat) = pr at *
      obtain ⟨K2, pid, per⟩ := pr
      simp only at Hdef hwr2 hres hlo
      rcases hres with rfl | rfl
      · have Hw2 := hide (And.intro hwr2 (And.intro hk2 hnf2))
        obtain ⟨f0, f2⟩ := hfl
        have hkk0 := hk2.cell (i * 3)
        have hkk1 := hk2.cell (i * 3 + 1)
        have hkk2 := hk2.cell (i * 3 + 2)
        rw [hu0] at hkk0
        rw [hu1] at hkk1
        rw [hu2] at hkk2
        have hff0 := hk2.free (i * 3)
        have hff1 := hk2.free (i * 3 + 1)
        have hff2 := hk2.free (i * 3 + 2)
        have hne : ga ≠ w.heap.size := fun e => by
          have := (unhide HvF) ga rfl
          obtain ⟨a', c', e', h2⟩ := unhide Hv
          obtain ⟨g0, e3, hh⟩ := h2 (by omega)
          obtain ⟨rfl, _, _⟩ : some (⟨ga, 0, none⟩ : Addr) = a' ∧ True ∧ vc = c' := by simpa using e'
          obtain rfl : ga = g0 := by simpa using e3
          have := World.block_lt_of_cell? w _ (hh 0 (by omega)).1
          have : ga < w.heap.size := this
          omega
        clear hwr2 hk2 hnf2 z1 z2 hu0 hu1 hu2
        go_upto_region 8 with fail
        go_region
        all_goals
          have hN : Hid (∃ (i' : Nat) (acc' : List En) (Ji' : Nat → Sl) (news' : List Rec) (F'' : Nat → Prop) (cur' : Array Value), i' = i + 1 ∧ i' ≤ l.length ∧ acc'.length = i' ∧ stJ J l [] = stJ Ji' (l.drop i') acc' ∧ Wrote w (((w2.setCell ⟨w.heap.size, i * 3, none⟩ (.string pat)).setCell ⟨w.heap.size, i * 3 + 1, none⟩ (.int .i64 (pid : Int))).setCell ⟨w.heap.size, i * 3 + 2, none⟩ (.int .i64 mod)).drew t s d D B recs J Ji' rt F news' F'' ∧ EPart cur' l.length acc' ∧ Has (((w2.setCell ⟨w.heap.size, i * 3, none⟩ (.string pat)).setCell ⟨w.heap.size, i * 3 + 1, none⟩ (.int .i64 (pid : Int))).setCell ⟨w.heap.size, i * 3 + 2, none⟩ (.int .i64 mod)).drew w.heap.size cur' 184 ∧ ¬ F'' w.heap.size) := hide (by
            obtain ⟨hwr2, hk2, hnf2⟩ := unhide Hw2
            have oS : Only (fun y => y = w.heap.size) w2 (((w2.setCell ⟨w.heap.size, i * 3, none⟩ (.string pat)).setCell ⟨w.heap.size, i * 3 + 1, none⟩ (.int .i64 (pid : Int))).setCell ⟨w.heap.size, i * 3 + 2, none⟩ (.int .i64 mod)).drew := ((((Only.refl (fun y => y = w.heap.size) w2).setCell (fun _ => rfl) _).setCell (fun _ => rfl) _).setCell (fun _ => rfl) _).drew
            have hE2 := (unhide HE).set hil hacc ⟨ls pat, (pid : Nat), mod⟩
            rw [show sb (ls pat) = pat from sb_ls pat] at hE2
            refine ⟨i + 1, acc ++ [⟨ls pat, (pid : Nat), mod⟩], K2, _, F2, _, rfl, by omega, by simp; omega, ?_, hwr2.own oS (fun y hy => ?_), hE2, ?_, hnf2⟩
            · rw [unhide Hst, unhide Hdef, if_pos rfl]
            · have hyk : y = w.heap.size := hy
              subst hyk
              exact ⟨by omega, by omega, hnf2, Nat.le_refl _⟩
            · exact Has.drew (((hk2.setCell (i * 3) _).setCell (i * 3 + 1) _).setCell (i * 3 + 2) _))
          clear Hw2 Hst HE Hdef
          go_wp2_with fail
          go_roundw
          case rel =>
            obtain ⟨i', acc', Ji', news', F'', cur', rfl, q1, q2, q3, q4, q5, q6, q7⟩ := unhide hN
            exact ⟨i + 1, acc', Ji', news', F'', cur', by go_num, q1, q2, q3, q4, q5, q6, q7⟩
          case measure => simp [intOf]; omega
      · have HR : Hid (storeJ J l = (K2, 0, 5)) := hide (by
          have e : stJ J l [] = (K2, acc, 5) := by
            rw [unhide Hst, unhide Hdef, if_neg (by decide)]
          unfold storeJ
          rw [e]
          rfl)
        have Hw2 := hide hwr2
        clear hwr2 hk2 hnf2 hfl z1 z2
        go_wp2_with fail
        go_ret2
        rw [unhide HR]
        exact ⟨rfl, _, _, unhide Hw2⟩
    · have a1 : decide ((i : Int) < (l.length : Int)) = false := decide_eq_false (by omega)
      have a1n : decide (i < l.length) = false := decide_eq_false hil
      have e2 : i = l.length := by omega
      have hst2 : stJ J l [] = (Ji, acc, 0) := by
        rw [hst, e2, List.drop_length]; rfl
      have hR : storeJ J l = wrJ Ji acc := by
        unfold storeJ
        rw [hst2, if_pos rfl]
      have hsr := hWr.only.size
      have C1 := hide (twrite_any hWr.ts (.slice (some ⟨w.heap.size, 0, none⟩) l.length l.length) acc (hE.in_ (by omega) hK) (fun y hy => by
        have : w.heap.size = y := by simpa [Value.ownBlock] using hy
        subst this
        exact ⟨by omega, by omega, hKF⟩) (by
          have := hWr.pot
          rw [List.length_append]
          omega) (by omega))
      have HW := hide hWr
      clear hst hst2 hWr hE hK hKF hvr hGr hoF
      generalize hpr : wrJ Ji acc = pr at *
      obtain ⟨K2, pid, per⟩ := pr
      have HR := hide hR
      clear hpr hR
      go_wp2_with fail
      refine (unhide C1).mono ?_
      rintro e w2 ⟨rfl, n2, F2, hw2⟩
      have RR := hide ((unhide HW).trans hw2)
      clear C1 hw2 HW
      go_wp2_with fail
      go_ret2
      rw [unhide HR]
      exact ⟨rfl, _, _, unhide RR⟩
end
end Go.Proofs.Qxb6500417aGreat
