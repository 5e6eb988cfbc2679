/-
  OWN WORK. THE TREE LAW: both sides; SameRoot, SameFree, SameDrop, SameCommit, SamePut, SameWriteTree.
-/
import Derived.Test.Qxb6500421aGreatTJ6
import Derived.Test.Qxb6500421aGreatTLF
import Derived.Test.Qxb6500421aGreatUWrt
import Derived.Test.Qxb6500421aGreatUCom
import Derived.Test.Qxb6500421aGreatUGet
import Derived.Lib.ConvBytes
import Derived.Laws.AppendOwn
namespace Go.Proofs.Qxb6500421aGreat
open Go.RowKit Go.PlainAid
set_option linter.unusedSimpArgs false
set_option linter.unusedVariables false

def byL (s : ByteArray) : List Nat := s.data.toList.map UInt8.toNat
theorem byL_len (s : ByteArray) : (byL s).length = s.size := by simp [byL]
theorem byL_at (s : ByteArray) (j : Nat) (hj : j < s.size) : dF (byL s) j = (s.data.toList.getD j 0).toNat := by
  have hj' : j < s.data.size := hj
  simp only [dF, byL, List.getD]
  rw [List.getElem?_map, Array.getElem?_toList, Array.getElem?_eq_getElem hj']
  rfl
theorem byL_lt (s : ByteArray) (j : Nat) : dF (byL s) j < 256 := by
  by_cases hj : j < s.size
  · rw [byL_at s j hj]; exact UInt8.toNat_lt _
  · unfold dF
    rw [getD_out (by rw [byL_len]; omega)]
    omega

theorem conv_any (w : World) (s : ByteArray) (hs : s.size ≤ maxLen) : ∃ W cap, (convert 9 54 (.string s)).run Tryz.prog w = .ok (.slice (some ⟨w.heap.size, 0, none⟩) s.size cap) W ∧ BytesAt W (.slice (some ⟨w.heap.size, 0, none⟩) s.size cap) (byL s).length (dF (byL s)) ∧ U8s W w.heap.size cap ∧ s.size ≤ cap ∧ cap ≤ 9223372036854775807 ∧ Only (fun _ => False) w W ∧ W.heap.size = w.heap.size + 1 := by
  have hcm := grownCap_le_maxLen w s.size 0 5 hs
  have hge := grownCap_ge w s.size 0 5
  refine ⟨_, _, Go.Lib.run_convert_string_bytes w 9 54 5 s Tryz.underlying9 Tryz.underlying54 Tryz.underlying5, ?_, ?_, hge, ?_, ?_, Go.Lib.bytesWorld_size w 5 s⟩
  · rw [byL_len]
    refine ⟨_, _, rfl, fun hn => ⟨_, rfl, fun j hj => ?_⟩⟩
    rw [byL_at s j hj]
    exact Go.Lib.bytesWorld_cell w 5 s j hj
  · intro j hj
    have hb := Go.Lib.bytesWorld_at_new w 5 s
    have hsz : (Go.Lib.bytesCells w 5 s).size = grownCap w s.size 0 5 := by
      simp [Go.Lib.bytesCells]
      have : s.data.size = s.size := rfl
      omega
    by_cases hjs : j < s.size
    · refine ⟨_, ?_, Go.Lib.bytesWorld_cell w 5 s j hjs, ?_⟩
      · exact UInt8.toNat_lt _
      · simp [World.frozen?, hb, hsz]; omega
    · refine ⟨0, by omega, ?_, ?_⟩
      · have hjs' : ¬ j < s.data.size := hjs
        have h3 : j - s.data.size < grownCap w s.size 0 5 - s.size := by
          have : s.data.size = s.size := rfl
          omega
        simp [World.cell?, hb, Go.Lib.bytesCells, Array.getElem?_append]
        have h3' : j - s.size < grownCap w s.size 0 5 - s.size := h3
        rw [if_neg hjs, Array.getElem?_replicate, if_pos h3']
      · simp [World.frozen?, hb, hsz]; omega
  · unfold maxLen at hcm; omega
  · exact ⟨rfl, rfl, rfl, by rw [Go.Lib.bytesWorld_size]; omega, fun k hk _ => Go.Lib.bytesWorld_at_old w 5 s k hk⟩


/-- Both sides show one state. -/
structure TW (w : World) (t s d m : Nat) (D B : Nat → Nat) (recs : List Rec) (J : Nat → Sl) (rt : Nat) (hist : Value) (F H : Nat → Prop) : Prop where
  ts : TS w t s d D B recs J rt F
  md : UAt w m J rt hist H
  off : ∀ k, H k → ¬ (F k ∨ k = s ∨ k = t)
/-- What an op leaves. -/
structure TStep (w w' : World) (t s d m : Nat) (D : Nat → Nat) (J : Nat → Sl) (rt : Nat) (F H : Nat → Prop) : Prop where
  ex : ∃ recs' J' rt' hist' F' H', TW w' t s d m (replayB D recs') D recs' J' rt' hist' F' H' ∧ (∃ a hl cap, hist' = .slice a hl cap) ∧ (∀ k, F' k ∨ H' k → F k ∨ H k ∨ w.heap.size ≤ k) ∧ (recs' = [] → JEq (abortJ J') (abortJ J) ∧ rt' = rt) ∧ (∀ kk, kk < recs'.length → Shows (replayB D (recs'.take kk)) rt (abortJ J)) ∧ (∀ r ∈ recs', r.1 < 145) ∧ recs'.length ≤ 1000
  only : Only (fun k => F k ∨ H k ∨ k = s ∨ k = t) w w'
section
variable {w : World} {t s d m : Nat} {D B : Nat → Nat} {recs : List Rec} {J J' : Nat → Sl} {rt rt' : Nat} {hist : Value} {F H : Nat → Prop}
theorem TW.quiet {w' : World} (h : TW w t s d m D B recs J rt hist F H) (ho : Only (fun _ => False) w w') : TW w' t s d m D B recs J rt hist F H := ⟨h.ts.quiet ho, h.md.quiet ho, h.off⟩
theorem TStep.same {w' : World} {a : Option Addr} {hl cap : Nat} (h : TW w t s d m D D [] J rt (.slice a hl cap) F H) (ho : Only (fun _ => False) w w') : TStep w w' t s d m D J rt F H :=
  ⟨⟨[], J, rt, _, F, H, h.quiet ho, ⟨_, _, _, rfl⟩, fun k hk => by rcases hk with h | h; exact .inl h; exact .inr (.inl h), fun _ => ⟨JEq.refl _, rfl⟩, fun kk hk => by simp at hk, fun r hr => by simp at hr, by simp⟩, ho.mono (fun _ _ h => h.elim)⟩
theorem TStep.pre {w0 w' : World} (ho : Only (fun _ => False) w w0) (h : TStep w0 w' t s d m D J rt F H) : TStep w w' t s d m D J rt F H := by
  have hs := ho.size
  obtain ⟨⟨r1, j1, rt1, h1, f1, hh1, a1, a2, a3, a4, a5, a6, a7⟩, hon⟩ := h
  refine ⟨⟨r1, j1, rt1, h1, f1, hh1, a1, a2, fun k hk => ?_, a4, a5, a6, a7⟩, (ho.mono (fun _ _ h => h.elim)).trans hon (fun _ _ h => h)⟩
  rcases a3 k hk with e | e | e
  · exact .inl e
  · exact .inr (.inl e)
  · exact .inr (.inr (by omega))

theorem tlRoot_any (h : TS w t s d D B recs J rt F) (hm : UAt w m J' rt' hist H) :
    Calls Tryz.prog 26 #[.pointer (some ⟨t, 0, none⟩), .pointer (some ⟨m, 0, none⟩)] w fun e w' => e = .returned (.bool ((rt : Int) == (rt' : Int))) ∧ w = w' := by
  have C1 := hide (troot_any h)
  have C2 := hide (uroot_any hm)
  clear h hm
  go_enter Tryz.func26, Tryz.ntmps26
  go_wp2_with fail
  refine (unhide C1).mono ?_
  rintro e w' ⟨rfl, rfl⟩
  go_wp2_with fail
  refine (unhide C2).mono ?_
  rintro e w' ⟨rfl, rfl⟩
  go_wp2_with fail
  go_ret
  exact ⟨rfl, rfl⟩
theorem tlFree_any (h : TS w t s d D B recs J rt F) (hm : UAt w m J' rt' hist H) :
    Calls Tryz.prog 27 #[.pointer (some ⟨t, 0, none⟩), .pointer (some ⟨m, 0, none⟩)] w fun e w' => e = .returned (.bool ((frJ J : Int) == (frJ J' : Int))) ∧ w = w' := by
  have C1 := tfree_any h
  have C2 := ufree_any hm
  generalize frJ J = c1 at *
  generalize frJ J' = c2 at *
  have C1 := hide C1
  have C2 := hide C2
  clear h hm
  go_enter Tryz.func27, Tryz.ntmps27
  go_wp2_with fail
  refine (unhide C1).mono ?_
  rintro e w' ⟨rfl, rfl⟩
  go_wp2_with fail
  refine (unhide C2).mono ?_
  rintro e w' ⟨rfl, rfl⟩
  go_wp2_with fail
  go_ret
  exact ⟨rfl, rfl⟩

theorem TW.apart (h : TW w t s d m D B recs J rt hist F H) : m ≠ t ∧ m ≠ s ∧ (∀ k, F k → k ≠ m) :=
  ⟨fun e => h.off m h.md.own (.inr (.inr e)), fun e => h.off m h.md.own (.inr (.inl e)), fun k hk e => h.off m h.md.own (.inl (e ▸ hk))⟩

theorem tlDrop_any {a : Option Addr} {hl cap : Nat} (h : TW w t s d m D D [] J rt (.slice a hl cap) F H) (id : Int) :
    Calls Tryz.prog 37 #[.pointer (some ⟨t, 0, none⟩), .pointer (some ⟨m, 0, none⟩), .int .i64 id] w fun e w' => e = .returned (.bool true) ∧ TStep w w' t s d m D J rt F H := by
  cases hlv : liveJ J id with
  | false =>
    have C1 := hide (tdrop_no h.ts id hlv)
    have C2 := hide (udrop_no h.md id hlv)
    have RR := hide (TStep.same h (Only.refl _ w))
    clear h
    go_enter Tryz.func37, Tryz.ntmps37
    go_wp2_with fail
    refine (unhide C1).mono ?_
    rintro e w' ⟨rfl, rfl⟩
    go_wp2_with fail
    refine (unhide C2).mono ?_
    rintro e w' ⟨rfl, rfl⟩
    go_wp2_with fail
    go_ret
    exact ⟨rfl, unhide RR⟩
  | true =>
    obtain ⟨i, rfl, hi, hls⟩ := liveJ_in hlv
    obtain ⟨mt, ms, mF⟩ := h.apart
    have C2 := hide (fun (w1 : World) (hm : UAt w1 m J rt (.slice a hl cap) H) => udrop_in hm i hi hls)
    have Hh := hide h
    by_cases hb : busy J i
    · have C1 := hide (tdrop_busy h.ts i hi hls hb)
      clear h
      go_enter Tryz.func37, Tryz.ntmps37
      go_wp2_with fail
      refine (unhide C1).mono ?_
      rintro e w1 ⟨rfl, rfl⟩
      go_wp2_with fail
      refine (unhide C2 _ (unhide Hh).md).mono ?_
      rintro e w2 (⟨_, rfl, rfl⟩ | ⟨hnb, _⟩)
      · go_wp2_with fail
        go_ret
        exact ⟨rfl, TStep.same (unhide Hh) (Only.refl _ _)⟩
      · exact absurd hb hnb
    · have C1 := hide (tdrop_in h.ts i hi hls hb)
      have hab := abortJ_drop hls
      clear h
      go_enter Tryz.func37, Tryz.ntmps37
      go_wp2_with fail
      refine (unhide C1).mono ?_
      rintro e w1 ⟨rfl, h1, ho1⟩
      have hm1 := (unhide Hh).md.keep ho1 (fun k hk e => (unhide Hh).off k hk (by
        first | exact .inr e | (rcases e with e | e; exact .inr (.inl e); exact .inr (.inr e)) | (rcases e with e | e; exact .inr (.inr e); exact .inr (.inl e)) | (rcases e with e | e | e; exact .inr (.inr e); exact .inr (.inl e); exact .inl e)))
      go_wp2_with fail
      refine (unhide C2 _ hm1).mono ?_
      rintro e w2 (⟨hb', _⟩ | ⟨_, rfl, hm2, ho2⟩)
      · exact absurd hb' hb
      · go_wp2_with fail
        go_ret
        have h0 := unhide Hh
        refine ⟨rfl, ⟨[], _, rt, _, F, H, ⟨h1.keep ho2 (fun e => mt e.symm) (fun e => ms e.symm) (fun k hk e => mF k hk e), hm2, h0.off⟩, ⟨_, _, _, rfl⟩, fun k hk => by rcases hk with h | h; exact .inl h; exact .inr (.inl h), fun _ => ⟨fun i hi => by rw [hab], rfl⟩, fun kk hk => by simp at hk, fun r hr => by simp at hr, by simp⟩, ?_⟩
        refine (ho1.mono (fun k _ e => ?_)).trans ho2 (fun i hi e => .inr (.inl (e ▸ h0.md.own)))
        first | exact .inr (.inr e) | (rcases e with e | e; exact .inr (.inr (.inl e)); exact .inr (.inr (.inr e))) | (rcases e with e | e; exact .inr (.inr (.inr e)); exact .inr (.inr (.inl e))) | (rcases e with e | e | e; exact .inr (.inr (.inr e)); exact .inr (.inr (.inl e)); exact .inl e)

theorem tlCommit_any (h : TW w t s d m D D [] J rt (.slice none 0 0) F H) (id : Int) :
    Calls Tryz.prog 38 #[.pointer (some ⟨t, 0, none⟩), .pointer (some ⟨m, 0, none⟩), .int .i64 id] w fun e w' => e = .returned (.bool true) ∧ TStep w w' t s d m D J rt F H := by
  by_cases hok : id = 0 ∨ liveJ J id = true
  · obtain ⟨r, rfl, hr⟩ : ∃ r : Nat, id = r ∧ (r = 0 ∨ (In r ∧ liveS (J r) = true)) := by
      rcases hok with rfl | hl
      · exact ⟨0, rfl, .inl rfl⟩
      · obtain ⟨i, rfl, h1, h2⟩ := liveJ_in hl
        exact ⟨i, rfl, .inr ⟨h1, h2⟩⟩
    obtain ⟨mt, ms, mF⟩ := h.apart
    have C1 := hide (tcommit_in h.ts r hr (by simp))
    have C2 := hide (fun (w1 : World) (hm : UAt w1 m J rt (.slice none 0 0) H) => ucommit_in hm r hr)
    have hsh := h.ts.shows
    have hmi := h.md.inn
    have Hh := hide h
    clear h hok hr
    go_enter Tryz.func38, Tryz.ntmps38
    go_wp2_with fail
    refine (unhide C1).mono ?_
    rintro e w1 ⟨rfl, sup, h1, ho1⟩
    have hm1 := (unhide Hh).md.keep ho1 (fun k hk e => (unhide Hh).off k hk (by
      rcases e with e | e
      · exact .inr (.inl e)
      · exact .inl e))
    have s1 := ho1.size
    go_wp2_with fail
    refine (unhide C2 _ hm1).mono ?_
    rintro e w2 ⟨rfl, ⟨a, cap, hm2⟩, ho2⟩
    go_wp2_with fail
    go_ret
    have h0 := unhide Hh
    have hmF : ∀ k, Ext F w w1 k → k ≠ m := fun k hk e => by
      rcases hk with hk | hk
      · exact mF k hk e
      · have := hmi m h0.md.own; omega
    refine ⟨rfl, ⟨[(0, sup)], comJ J, r, _, Ext F w w1, H, ⟨h1.keep ho2 (fun e => mt e.symm) (fun e => ms e.symm) (fun k hk e => hmF k hk e), hm2, fun k hk e => ?_⟩, ⟨_, _, _, rfl⟩, fun k hk => ?_, fun h => by simp at h, fun kk hk => ?_, fun x hx => ?_, by simp⟩, ?_⟩
    · rcases e with (e | e) | e | e
      · exact h0.off k hk (.inl e)
      · have := hmi k hk; omega
      · exact h0.off k hk (.inr (.inl e))
      · exact h0.off k hk (.inr (.inr e))
    · rcases hk with (hk | hk) | hk
      · exact .inl hk
      · exact .inr (.inr hk.1)
      · exact .inr (.inl hk)
    · obtain rfl : kk = 0 := by simp at hk; exact hk
      exact hsh
    · simp at hx
      subst hx
      show 0 < 145
      omega
    · exact (ho1.mono (fun _ _ e => by rcases e with e | e; exact .inr (.inr (.inl e)); exact .inl e)).trans ho2 (fun i hi e => .inr (.inl (e ▸ h0.md.own)))
  · have h0 : id ≠ 0 := fun e => hok (.inl e)
    have hl : liveJ J id = false := by
      cases hh : liveJ J id with
      | false => rfl
      | true => exact absurd (.inr hh) hok
    have C1 := hide (tcommit_no h.ts id h0 hl)
    have C2 := hide (ucommit_no h.md id h0 hl)
    have RR := hide (TStep.same h (Only.refl _ w))
    clear hok hl h
    go_enter Tryz.func38, Tryz.ntmps38
    go_wp2_with fail
    refine (unhide C1).mono ?_
    rintro e w' ⟨rfl, rfl⟩
    go_wp2_with fail
    refine (unhide C2).mono ?_
    rintro e w' ⟨rfl, rfl⟩
    go_wp2_with fail
    go_ret
    exact ⟨rfl, unhide RR⟩

/-- Put of any kind, of any size. -/
def putA (J : Nat → Sl) (k : Int) (dat : List Nat) : (Nat → Sl) × Nat × Nat := if ¬ (1 ≤ k ∧ k ≤ 4) ∨ k = 2 then (J, 0, 3) else if 180 < dat.length then (J, 0, 4) else putJ J k.toNat dat
set_option maxRecDepth 100000 in
theorem tputA_any (h : TS w t s d D B recs J rt F) (k : Int) (dat : List Nat) (a : Option Addr) (cap : Nat) (hdat : BytesAt w (.slice a dat.length cap) dat.length (dF dat)) (h8 : ∀ j, j < dat.length → dF dat j < 256) (hvs : ∀ y, (Value.slice a dat.length cap).ownBlock = some y → ¬ F y ∧ y ≠ s) (hrl : recs.length ≤ 900) :
    Calls Tryz.prog 56 #[.pointer (some ⟨t, 0, none⟩), .int .i64 k, .slice a dat.length cap] w fun e w' => e = .returned (.tuple #[.int .i64 ((putA J k dat).2.1 : Nat), .int .i64 ((putA J k dat).2.2 : Nat)]) ∧ ∃ news F', Wrote w w' t s d D B recs J (putA J k dat).1 rt F news F' := by
  by_cases h1 : ¬ (1 ≤ k ∧ k ≤ 4) ∨ k = 2
  · have e : putA J k dat = (J, 0, 3) := by unfold putA; rw [if_pos h1]
    rw [e]
    have RR := hide (Wrote.none h h (Only.refl _ w))
    by_cases h2 : k = 2
    · subst h2
      clear h hdat h8 hvs e
      go_enter Tryz.func56, Tryz.ntmps56
      go_wp2_with fail
      go_ret2
      exact ⟨rfl, _, _, unhide RR⟩
    · have a2 : (k == 2) = false := ne_intO h2
      have C := hide (put_kind s w k (by omega) (.slice a dat.length cap))
      have c0 := h.tab.store.1
      clear h hdat h8 hvs e
      generalize dat.length = n at *
      go_enter Tryz.func56, Tryz.ntmps56
      go_wp2_with fail
      refine (unhide C).mono ?_
      rintro e w1 ⟨rfl, rfl⟩
      go_wp2_with fail
      go_ret2
      exact ⟨rfl, _, _, unhide RR⟩
  · obtain ⟨kk, rfl⟩ : ∃ kk : Nat, k = kk := ⟨k.toNat, by omega⟩
    by_cases hb : 180 < dat.length
    · have e : putA J (kk : Int) dat = (J, 0, 4) := by unfold putA; rw [if_neg h1, if_pos hb]
      rw [e]
      have RR := hide (Wrote.none h h (Only.refl _ w))
      have a2 : ((kk : Int) == 2) = false := ne_intO (by omega)
      have C := hide (put_big s w kk (by omega) (by omega) a dat.length cap hb)
      have c0 := h.tab.store.1
      clear h hdat h8 hvs e
      generalize dat.length = n at *
      go_enter Tryz.func56, Tryz.ntmps56
      go_wp2_with fail
      refine (unhide C).mono ?_
      rintro e w1 ⟨rfl, rfl⟩
      go_wp2_with fail
      go_ret2
      exact ⟨rfl, _, _, unhide RR⟩
    · have e : putA J (kk : Int) dat = putJ J kk dat := by unfold putA; rw [if_neg h1, if_neg hb]; simp
      rw [e]
      exact tput_any h kk (by omega) (by omega) (by omega) dat _ hdat (by omega) h8 hvs hrl
theorem uputA_any (h : UAt w m J rt hist H) (k : Int) (dat : List Nat) (a : Option Addr) (cap : Nat) (hdat : BytesAt w (.slice a dat.length cap) dat.length (dF dat)) :
    Calls Tryz.prog 57 #[.pointer (some ⟨m, 0, none⟩), .int .i64 k, .slice a dat.length cap] w fun e w' => e = .returned (.tuple #[.int .i64 ((putA J k dat).2.1 : Nat), .int .i64 ((putA J k dat).2.2 : Nat)]) ∧ ∃ H', UAt w' m (putA J k dat).1 rt hist H' ∧ (∀ y, H' y → H y ∨ w.heap.size ≤ y) ∧ Only (fun y => y = m) w w' := by
  by_cases h1 : ¬ (1 ≤ k ∧ k ≤ 4) ∨ k = 2
  · have e : putA J k dat = (J, 0, 3) := by unfold putA; rw [if_pos h1]
    rw [e]
    refine (uput_kind m w k h1 _).mono ?_
    rintro e w1 ⟨rfl, rfl⟩
    exact ⟨rfl, H, h, fun y hy => .inl hy, Only.refl _ _⟩
  · obtain ⟨kk, rfl⟩ : ∃ kk : Nat, k = kk := ⟨k.toNat, by omega⟩
    by_cases hb : 180 < dat.length
    · have e : putA J (kk : Int) dat = (J, 0, 4) := by unfold putA; rw [if_neg h1, if_pos hb]
      rw [e]
      refine (uput_big m w kk (by omega) (by omega) (by omega) a dat.length cap hb).mono ?_
      rintro e w1 ⟨rfl, rfl⟩
      exact ⟨rfl, H, h, fun y hy => .inl hy, Only.refl _ _⟩
    · have e : putA J (kk : Int) dat = putJ J kk dat := by unfold putA; rw [if_neg h1, if_neg hb]; simp
      rw [e]
      refine (uput_any h kk (by omega) (by omega) (by omega) dat _ hdat (by omega)).mono ?_
      rintro e w1 ⟨rfl, h1, h2⟩
      exact ⟨rfl, _, h1, fun y hy => by rcases hy with e | e; exact .inl e; exact .inr e.1, h2⟩

/-- A step that wrote on one side, then a step on the other, then blocks of the law's own turned. -/
theorem TStep.both {S : Nat → Prop} {w1 w2 w3 w4 : World} {J2 : Nat → Sl} {news : List Rec} {F2 H2 : Nat → Prop} {a : Option Addr} {hl cap : Nat} (h : TW w t s d m D D [] J rt (.slice a hl cap) F H) (ho0 : Only (fun _ => False) w w1) (hW : Wrote w1 w2 t s d D D [] J J2 rt F news F2) (hU : UAt w3 m J2 rt (.slice a hl cap) H2) (hx : ∀ y, H2 y → H y ∨ w2.heap.size ≤ y) (ho : Only (fun y => y = m) w2 w3) (hpot : 3 * frJ J ≤ 900) (hoS : Only S w3 w4) (hS : ∀ y, S y → w.heap.size ≤ y ∧ y < w1.heap.size) : TStep w w4 t s d m D J rt F H := by
  obtain ⟨mt, ms, mF⟩ := h.apart
  have s0 := ho0.size
  have s1 := hW.only.size
  have hmi := h.md.inn
  have hmw := hmi m h.md.own
  have hts := hW.ts.ts_lt
  obtain ⟨t1, t2, t3⟩ := h.ts.ts_lt
  have mF2 : ∀ k, F2 k → k ≠ m := fun k hk e => by
    rcases hW.ext k hk with e2 | e2
    · exact mF k e2 e
    · omega
  have hts2 := hW.ts
  rw [List.nil_append] at hts2
  have nF : ∀ k, F2 k → ¬ S k := fun k hk e => by
    have := hS k e
    rcases hW.ext k hk with e2 | e2
    · have := t3 k e2; omega
    · omega
  have nH : ∀ k, H2 k → ¬ S k := fun k hk e => by
    have := hS k e
    rcases hx k hk with e2 | e2
    · have := hmi k e2; omega
    · omega
  refine ⟨⟨news, J2, rt, _, F2, H2, ⟨(hts2.keep ho (fun e => mt e.symm) (fun e => ms e.symm) (fun k hk e => mF2 k hk e)).keep hoS (fun e => by have := hS t e; omega) (fun e => by have := hS s e; omega) nF, hU.keep hoS nH, fun k hk e => ?_⟩, ⟨_, _, _, rfl⟩, fun k hk => ?_, fun _ => ⟨hW.same, rfl⟩, fun kk _ => hW.cuts kk, hW.keys, ?_⟩, ?_⟩
  · rcases hx k hk with e1 | e1
    · rcases e with e | e | e
      · rcases hW.ext k e with e2 | e2
        · exact h.off k e1 (.inl e2)
        · have := hmi k e1; omega
      · exact h.off k e1 (.inr (.inl e))
      · exact h.off k e1 (.inr (.inr e))
    · rcases e with e | e | e
      · have := hts.2.2 k e; omega
      · omega
      · omega
  · rcases hk with hk | hk
    · rcases hW.ext k hk with e | e
      · exact .inl e
      · exact .inr (.inr (by omega))
    · rcases hx k hk with e | e
      · exact .inr (.inl e)
      · exact .inr (.inr (by omega))
  · have := hW.pot; omega
  · exact (((ho0.mono (T := fun k => F k ∨ H k ∨ k = s ∨ k = t) (fun _ _ h => h.elim)).trans hW.only (fun i hi e => by rcases e with e | e | e; exact .inr (.inr (.inr e)); exact .inr (.inr (.inl e)); exact .inl e)).trans ho (fun i hi e => .inr (.inl (e ▸ h.md.own)))).trans hoS (fun i hi e => by have := hS i e; omega)
theorem frJ_le (J : Nat → Sl) : 3 * frJ J ≤ 900 := by
  have := cntTo_le (isFreeS J) 49
  unfold frJ
  omega
end
end Go.Proofs.Qxb6500421aGreat
