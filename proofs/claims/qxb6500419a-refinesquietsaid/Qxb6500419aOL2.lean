/-
  OWN WORK. THE OBJECT LAW: SamePut, SameGet, Alike.
-/
import Derived.Test.Qxb6500419aOL1
import Derived.Lib.ConvBytes
import Derived.Laws.AppendOwn
namespace Go.Proofs.Qxb6500419a
open Go.RowKit
set_option linter.unusedSimpArgs false
set_option linter.unusedVariables false

def bl (s : ByteArray) : List Nat := s.data.toList.map UInt8.toNat
theorem bl_len (s : ByteArray) : (bl s).length = s.size := by simp [bl]
theorem bl_at (s : ByteArray) (j : Nat) (hj : j < s.size) : dF (bl s) j = (s.data.toList.getD j 0).toNat := by
  have hj' : j < s.data.size := hj
  simp only [dF, bl, List.getD]
  rw [List.getElem?_map, Array.getElem?_toList, Array.getElem?_eq_getElem hj']
  rfl
theorem bl_lt (s : ByteArray) (j : Nat) : dF (bl s) j < 256 := by
  by_cases hj : j < s.size
  · rw [bl_at s j hj]; exact UInt8.toNat_lt _
  · unfold dF
    rw [getD_out (by rw [bl_len]; omega)]
    omega

theorem conv_any (w : World) (s : ByteArray) (hs : s.size ≤ maxLen) : ∃ W cap, (convert 9 47 (.string s)).run Try.prog w = .ok (.slice (some ⟨w.heap.size, 0, none⟩) s.size cap) W ∧ BytesAt W (.slice (some ⟨w.heap.size, 0, none⟩) s.size cap) (bl s).length (dF (bl s)) ∧ U8s W w.heap.size cap ∧ s.size ≤ cap ∧ cap ≤ 9223372036854775807 ∧ Only (fun _ => False) w W ∧ W.heap.size = w.heap.size + 1 := by
  have hcm := grownCap_le_maxLen w s.size 0 5 hs
  have hge := grownCap_ge w s.size 0 5
  refine ⟨_, _, Go.Lib.run_convert_string_bytes w 9 47 5 s Try.underlying9 Try.underlying47 Try.underlying5, ?_, ?_, hge, ?_, ?_, Go.Lib.bytesWorld_size w 5 s⟩
  · rw [bl_len]
    refine ⟨_, _, rfl, fun hn => ⟨_, rfl, fun j hj => ?_⟩⟩
    rw [bl_at s j hj]
    exact Go.Lib.bytesWorld_cell w 5 s j hj
  · intro j hj
    have hb := Go.Lib.bytesWorld_at_new w 5 s
    have hsz : (Go.Lib.bytesCells w 5 s).size = grownCap w s.size 0 5 := by
      simp [Go.Lib.bytesCells]
      have : s.data.size = s.size := rfl
      omega
    by_cases hjs : j < s.size
    · refine ⟨_, ?_, Go.Lib.bytesWorld_cell w 5 s j hjs, ?_⟩
      · exact UInt8.toNat_lt _
      · simp [World.frozen?, hb, hsz]; omega
    · refine ⟨0, by omega, ?_, ?_⟩
      · have hjs' : ¬ j < s.data.size := hjs
        have h3 : j - s.data.size < grownCap w s.size 0 5 - s.size := by
          have : s.data.size = s.size := rfl
          omega
        simp [World.cell?, hb, Go.Lib.bytesCells, Array.getElem?_append]
        have h3' : j - s.size < grownCap w s.size 0 5 - s.size := h3
        rw [if_neg hjs, Array.getElem?_replicate, if_pos h3']
      · simp [World.frozen?, hb, hsz]; omega
  · unfold maxLen at hcm; omega
  · exact ⟨rfl, rfl, rfl, by rw [Go.Lib.bytesWorld_size]; omega, fun k hk _ => Go.Lib.bytesWorld_at_old w 5 s k hk⟩

section
variable {w : World} {s d m : Nat} {D B : Nat → Nat} {recs : List Rec} {ob ob' : Nat → Ob} {rt rt' : Nat} {hist : Value} {F H : Nat → Prop}

theorem cntF_put {i : Nat} (hi : In i) (h0 : (ob i).st = 0) (o : Ob) (ho : o.st = 1) : cntF ob = cntF (updT ob i o) + 1 := by
  unfold cntF
  apply cntTo_turn (j := i)
  · unfold isFree; have := hi.1; rw [h0]; simp; omega
  · unfold isFree; rw [updT_same, ho]; simp
  · intro j hj; unfold isFree; rw [updT_other _ _ _ _ hj]
  · have := hi.2; omega
theorem OS.tw (h : OS w s d D B recs ob rt F) : Tw liveO ob := by
  obtain ⟨⟨tab, hd, us, nf, bk, hs, hi⟩, _, _⟩ := h
  exact hi.twl
theorem MAt.more {w' : World} (h : MAt w' m ob rt hist H) (hi : ∀ k, H k → k < w.heap.size) (hs : w.heap.size ≤ w'.heap.size) : MAt w' m ob rt hist (Ext H w w') :=
  h.mono (fun _ hk => .inl hk) (Ext.in hi hs)

/-- Put on both sides. -/
theorem oput_all (h : OS w s d D D [] ob rt F) (k : Int) (dat : List Nat) (a : Option Addr) (n cap : Nat) (hn : dat.length = n) (hdat : BytesAt w (.slice a n cap) dat.length (dF dat)) (h8 : ∀ j, j < dat.length → dF dat j < 256) (hvs : ∀ y, (Value.slice a n cap).ownBlock = some y → ¬ F y ∧ y ≠ s) :
    Calls Try.prog 49 #[.pointer (some ⟨s, 0, none⟩), .int .i64 k, .slice a n cap] w fun e w1 => ∃ (id er : Int) (recs' : List Rec) (ob' : Nat → Ob) (F' : Nat → Prop), e = .returned (.tuple #[.int .i64 id, .int .i64 er]) ∧ OS w1 s d (replayB D recs') D recs' ob' rt F' ∧
      (∀ k, F' k → F k ∨ (w.heap.size ≤ k ∧ k < w1.heap.size)) ∧ Only (fun k => k = s ∨ F k) w w1 ∧ (∀ kk, kk < recs'.length → Img (replayB D (recs'.take kk)) rt (per ob)) ∧ (∀ r ∈ recs', r.1 < 145) ∧ recs'.length ≤ 3 ∧
      ((recs' = [] ∧ ob' = ob) ∨ (cntF ob' < cntF ob ∧ recs'.length = nB n ∧ n ≤ 180)) ∧
      (∀ wm m hist H a' c', MAt wm m ob rt hist H → BytesAt wm (.slice a' n c') dat.length (dF dat) → Calls Try.prog 50 #[.pointer (some ⟨m, 0, none⟩), .int .i64 k, .slice a' n c'] wm fun e wm' => e = .returned (.tuple #[.int .i64 id, .int .i64 er]) ∧ MAt wm' m ob' rt hist (Ext H wm wm') ∧ Only (fun k => k = m) wm wm') := by
  have hsame : ∀ w1, Only (fun _ => False) w w1 → OS w1 s d (replayB D []) D [] ob rt F := fun w1 ho => h.quiet ho
  have hFi := h.inn
  by_cases hk : 1 ≤ k ∧ k ≤ 4
  · obtain ⟨kk, rfl⟩ : ∃ kk : Nat, k = kk := ⟨k.toNat, by omega⟩
    by_cases hb : 180 < n
    · refine (put_big s w kk (by omega) (by omega) a n cap hb).mono ?_
      rintro e w1 ⟨rfl, rfl⟩
      refine ⟨0, 4, [], ob, F, rfl, hsame _ (Only.refl _ _), fun k hk => .inl hk, Only.refl _ _, fun kk hk => by simp at hk, fun r hr => by simp at hr, by simp, .inl ⟨rfl, rfl⟩, ?_⟩
      intro wm m hist H a' c' hm hd
      refine (mput_big m wm kk (by omega) (by omega) a' n c' hb).mono ?_
      rintro e wm' ⟨rfl, rfl⟩
      exact ⟨rfl, hm.more hm.inn (Nat.le_refl _), Only.refl _ _⟩
    · refine (put_any h kk (by omega) (by omega) dat (.slice a n cap) hdat (by omega) h8 hvs (by simp)).mono ?_
      intro e w1 hr
      have hM := fun wm m hist H a' c' (hm : MAt wm m ob rt hist H) (hd : BytesAt wm (.slice a' n c') dat.length (dF dat)) => mput_any hm kk (by omega) (by omega) dat (.slice a' n c') hd (by omega)
      rcases hr with ⟨r, hri, hl, hkd, hda, rfl, ho⟩ | ⟨hno, hf, rfl, ho⟩ | ⟨i, L, hno, hi, h0, hlow, hL, hLb, rfl, hs, ho⟩
      · refine ⟨r, 0, [], ob, F, rfl, hsame _ ho, fun k hk => .inl hk, ho.mono (fun _ _ h => h.elim), fun kk hk => by simp at hk, fun r hr => by simp at hr, by simp, .inl ⟨rfl, rfl⟩, ?_⟩
        intro wm m hist H a' c' hm hd
        refine (hM wm m hist H a' c' hm hd).mono ?_
        intro e wm' hr2
        rcases hr2 with ⟨r2, hri2, hl2, hkd2, hda2, rfl, ho2⟩ | ⟨hno2, hf2, rfl, ho2⟩ | ⟨i2, hno2, hi2, h02, hlow2, rfl, hs2, ho2⟩
        · obtain rfl : r = r2 := h.tw r r2 hri hri2 hl hl2 (by rw [hkd, hkd2]) (by rw [hda, hda2])
          exact ⟨rfl, (hm.quiet ho2).more hm.inn ho2.size, ho2.mono (fun _ _ h => h.elim)⟩
        · exact absurd ⟨hkd, hda⟩ (hno2 r hri hl)
        · exact absurd ⟨hkd, hda⟩ (hno2 r hri hl)
      · refine ⟨0, 5, [], ob, F, rfl, hsame _ ho, fun k hk => .inl hk, ho.mono (fun _ _ h => h.elim), fun kk hk => by simp at hk, fun r hr => by simp at hr, by simp, .inl ⟨rfl, rfl⟩, ?_⟩
        intro wm m hist H a' c' hm hd
        refine (hM wm m hist H a' c' hm hd).mono ?_
        intro e wm' hr2
        rcases hr2 with ⟨r2, hri2, hl2, hkd2, hda2, rfl, ho2⟩ | ⟨hno2, hf2, rfl, ho2⟩ | ⟨i2, hno2, hi2, h02, hlow2, rfl, hs2, ho2⟩
        · exact absurd ⟨hkd2, hda2⟩ (hno r2 hri2 hl2)
        · exact ⟨rfl, (hm.quiet ho2).more hm.inn ho2.size, ho2.mono (fun _ _ h => h.elim)⟩
        · exact absurd h02 (hf i2 hi2)
      · have hn3 := nB_full n (by omega)
        refine ⟨i, 0, newsOf kk dat L L.length, updT ob i ⟨1, kk, dat, L⟩, Ext F w w1, rfl, by simpa using hs, fun k hk => hk, ho, ?_, ?_, ?_, .inr ⟨?_, ?_, by omega⟩, ?_⟩
        · intro k2 hk2
          exact h.img.put kk dat L hLb k2
        · intro r hr
          exact (hLb _ (newsOf_key kk dat L _ (Nat.le_refl _) r hr)).2.1
        · rw [newsOf_len, hL, hn]
          unfold nB
          (repeat' split) <;> omega
        · have := cntF_put (ob := ob) hi h0 ⟨1, kk, dat, L⟩ rfl
          omega
        · rw [newsOf_len, hL, hn]
        · intro wm m hist H a' c' hm hd
          refine (hM wm m hist H a' c' hm hd).mono ?_
          intro e wm' hr2
          rcases hr2 with ⟨r2, hri2, hl2, hkd2, hda2, rfl, ho2⟩ | ⟨hno2, hf2, rfl, ho2⟩ | ⟨i2, hno2, hi2, h02, hlow2, rfl, hs2, ho2⟩
          · exact absurd ⟨hkd2, hda2⟩ (hno r2 hri2 hl2)
          · exact absurd h0 (hf2 i hi)
          · have : i = i2 := by
              rcases Nat.lt_trichotomy i i2 with h1 | h1 | h1
              · exact absurd h0 (hlow2 i hi h1)
              · exact h1
              · exact absurd h02 (hlow i2 hi2 h1)
            subst this
            exact ⟨rfl, hs2 L, ho2⟩
  · refine (put_kind s w k hk _).mono ?_
    rintro e w1 ⟨rfl, rfl⟩
    refine ⟨0, 3, [], ob, F, rfl, hsame _ (Only.refl _ _), fun k hk => .inl hk, Only.refl _ _, fun kk hk => by simp at hk, fun r hr => by simp at hr, by simp, .inl ⟨rfl, rfl⟩, ?_⟩
    intro wm m hist H a' c' hm hd
    refine (mput_kind m wm k hk _).mono ?_
    rintro e wm' ⟨rfl, rfl⟩
    exact ⟨rfl, hm.more hm.inn (Nat.le_refl _), Only.refl _ _⟩

set_option maxRecDepth 100000 in
set_option maxHeartbeats 2000000 in
theorem samePut_any {a : Option Addr} {hl cap : Nat} (h : OJ w s d m D D [] ob rt (.slice a hl cap) F H) (k : Int) (sb : ByteArray) (hsb : sb.size ≤ maxLen) :
    Calls Try.prog 29 #[.pointer (some ⟨s, 0, none⟩), .pointer (some ⟨m, 0, none⟩), .int .i64 k, .string sb] w fun e w' => e = .returned (.bool true) ∧ ∃ recs' ob', OStep w w' s d m D ob rt F H recs' ob' hl ∧ ((recs' = [] ∧ ob' = ob) ∨ (cntF ob' < cntF ob ∧ recs'.length = nB sb.size ∧ sb.size ≤ 180)) := by
  obtain ⟨w1, c1, hc1, hb1, hu1, hle1, hlc1, ho1, hs1⟩ := conv_any w sb hsb
  obtain ⟨w2, c2, hc2, hb2, hu2, hle2, hlc2, ho2, hs2⟩ := conv_any w1 sb hsb
  have hFi := h.os.inn
  have hHi := h.md.inn
  have hsl := h.os.lt
  have h2 := (h.quiet ho1).quiet ho2
  have hb1' := hb1.keep ho2 (fun _ _ h => h)
  have hu1' := hu1.keep ho2 (fun h => h)
  have C1 := hide (oput_all h2.os k (bl sb) (some ⟨w.heap.size, 0, none⟩) sb.size c1 (bl_len sb) hb1' (fun j _ => bl_lt sb j) (fun y hy => by
    have : w.heap.size = y := by simpa [Value.ownBlock] using hy
    subst this
    exact ⟨fun hf => by have := hFi _ hf; omega, by omega⟩))
  generalize hg1 : w.heap.size = g1 at *
  generalize hg2 : w1.heap.size = g2 at *
  have n12 : g1 < g2 := by omega
  have n2 : g2 < w2.heap.size := by omega
  clear hs1 hs2
  have HB1 := hide hb1'
  have HB2 := hide hb2
  have HU1 := hide hu1'
  have hlen := bl_len sb
  have H2 := hide h2
  clear hb1 hb2 hu1 hu2 hb1' hu1' h2
  go_enter Try.func29, Try.ntmps29
  go_wp2_with fail
  refine (unhide C1).mono ?_
  rintro e w3 ⟨id, er, recs', ob', F', rfl, hs3, hF', ho3, hmid, hkeys, hfew, hdue, hmod⟩
  have s3 := ho3.size
  have C2 := hide (hmod w3 m (.slice a hl cap) H (some ⟨g2, 0, none⟩) c2 ((unhide H2).md.keep ho3 (fun k hk e => h.off k hk e.symm)) ((unhide HB2).keep ho3 (fun y hy e => by
    have : g2 = y := by simpa [Value.ownBlock] using hy
    subst this
    rcases e with e | e
    · omega
    · have := hFi _ e; omega)))
  clear hmod C1
  go_wp2_with fail
  refine (unhide C2).mono ?_
  rintro e w4 ⟨rfl, hm4, ho4⟩
  have s4 := ho4.size
  have hml := hHi m h.md.own
  have hms : m ≠ s := fun e => h.off m h.md.own (.inr e)
  have hB1 := ((unhide HB1).keep ho3 (fun y hy e => by
    have : g1 = y := by simpa [Value.ownBlock] using hy
    subst this
    rcases e with e | e
    · omega
    · have := hFi _ e; omega)).keep ho4 (fun y hy e => by
    have : g1 = y := by simpa [Value.ownBlock] using hy
    omega)
  have hB2 := ((unhide HB2).keep ho3 (fun y hy e => by
    have : g2 = y := by simpa [Value.ownBlock] using hy
    subst this
    rcases e with e | e
    · omega
    · have := hFi _ e; omega)).keep ho4 (fun y hy e => by
    have : g2 = y := by simpa [Value.ownBlock] using hy
    omega)
  have hU1 := ((unhide HU1).keep ho3 (fun e => by
    rcases e with e | e
    · omega
    · have := hFi _ e; omega)).keep ho4 (fun e => by omega)
  have C3 := lsame_any (.slice (some ⟨g1, 0, none⟩) sb.size c1) (.slice (some ⟨g2, 0, none⟩) sb.size c2) (bl sb) (bl sb) hB1 hB2 (by rw [hlen]; omega)
  have hdd : decide (bl sb = bl sb) = true := by simp
  rw [hdd] at C3
  clear hdd
  have C3 := hide C3
  have HU := hide hU1
  clear hB1 hB2 hU1 C2 HB1 HB2 HU1
  have ei : (id == id) = true := by simp
  have ee : (er == er) = true := by simp
  go_wp2_with fail
  refine (unhide C3).mono ?_
  rintro e w5 ⟨rfl, ho5⟩
  have s5 := ho5.size
  have C4 := hide (scribble_any (n := sb.size) ((unhide HU).keep ho5 (fun h => h)) hle1 hlc1)
  clear C3 HU
  go_wp2_with fail
  refine (unhide C4).mono ?_
  rintro e w6 ⟨rfl, ho6⟩
  clear C4
  go_wp2_with fail
  go_ret
  have hFn : ∀ k, F' k → k ≠ g1 ∧ k ≠ m := fun k hk => by
    rcases hF' k hk with hk | hk
    · have := hFi k hk
      exact ⟨by omega, fun e => h.off m h.md.own (.inl (e ▸ hk))⟩
    · omega
  have hHn : ∀ k, Ext H w3 w4 k → k ≠ g1 := fun k hk => by
    rcases hk with hk | hk
    · have := hHi k hk; omega
    · omega
  refine ⟨rfl, recs', ob', ⟨⟨rt, a, cap, F', Ext H w3 w4, ⟨((hs3.keep ho4 (fun e => hms e.symm) (fun k hk e => (hFn k hk).2 e)).quiet ho5).keep ho6 (by omega) (fun k hk e => (hFn k hk).1 e), (hm4.quiet ho5).keep ho6 (fun k hk e => hHn k hk e), fun k hk e => ?_⟩, fun k hk => ?_, fun hr => ?_⟩, hmid, hkeys, hfew, ?_⟩, hdue⟩
  · rcases hk with hk | hk
    · rcases e with e | e
      · rcases hF' k e with e | e
        · exact h.off k hk (.inl e)
        · have := hHi k hk; omega
      · exact h.off k hk (.inr e)
    · rcases e with e | e
      · rcases hF' k e with e | e
        · have := hFi k e; omega
        · omega
      · omega
  · rcases hk with hk | hk
    · rcases hF' k hk with e | e
      · exact .inl e
      · exact .inr (.inr (by omega))
    · rcases hk with hk | hk
      · exact .inr (.inl hk)
      · exact .inr (.inr (by omega))
  · rcases hdue with ⟨_, rfl⟩ | ⟨_, h2, _⟩
    · exact ⟨rfl, rfl⟩
    · rw [hr] at h2
      unfold nB at h2
      simp at h2
      split at h2
      · omega
      · split at h2 <;> omega
  · have o2 : Only (fun k => F k ∨ H k ∨ k = s) w w2 := (ho1.trans ho2 (fun _ _ h => h)).mono (fun _ _ h => h.elim)
    have o3 := o2.trans ho3 (fun i hi e => by rcases e with e | e; exact .inr (.inr e); exact .inl e)
    have o4 := o3.trans ho4 (fun i hi e => .inr (.inl (e ▸ h.md.own)))
    have o5 := o4.trans ho5 (fun i hi e => e.elim)
    exact o5.trans ho6 (fun i hi e => by omega)

/-- What Get shows. -/
def gk (ob : Nat → Ob) (id : Int) : Nat := if liveI ob id = true then (ob id.toNat).kd else 0
def ge (ob : Nat → Ob) (id : Int) : Nat := if liveI ob id = true then 0 else 6
def gd (ob : Nat → Ob) (id : Int) : List Nat := if liveI ob id = true then (ob id.toNat).dat else []
theorem live_in_of {ob : Nat → Ob} {id : Int} (h : liveI ob id = true) : ∃ i : Nat, id = i ∧ In i ∧ liveO (ob i) = true := by
  have hin : 1 ≤ id ∧ id ≤ 48 := by
    by_cases hh : 1 ≤ id ∧ id ≤ 48
    · exact hh
    · rw [liveI_out ob id hh] at h; cases h
  obtain ⟨i, rfl⟩ : ∃ i : Nat, id = i := ⟨id.toNat, by omega⟩
  have hi : In i := ⟨by omega, by omega⟩
  rw [liveI_nat ob i hi] at h
  exact ⟨i, rfl, hi, h⟩

theorem oget_all (h : OS w s d D B recs ob rt F) (id : Int) :
    Calls Try.prog 53 #[.pointer (some ⟨s, 0, none⟩), .int .i64 id] w fun e w' => ∃ v, e = .returned (.tuple #[.int .i64 (gk ob id : Nat), v, .int .i64 (ge ob id : Nat)]) ∧ BytesAt w' v (gd ob id).length (dF (gd ob id)) ∧ (gd ob id).length ≤ 180 ∧ (ge ob id = 0 → ∃ g n, v = .slice (some ⟨g, 0, none⟩) n n ∧ U8s w' g n ∧ n ≤ 180 ∧ w.heap.size ≤ g ∧ g < w'.heap.size) ∧ (∀ y, v.ownBlock = some y → w.heap.size ≤ y ∧ y < w'.heap.size) ∧ Only (fun _ => False) w w' := by
  cases hl : liveI ob id with
  | false =>
    refine (get_no h id hl).mono ?_
    rintro e w' ⟨rfl, rfl⟩
    have e1 : gk ob id = 0 := by unfold gk; rw [hl]; rfl
    have e2 : ge ob id = 6 := by unfold ge; rw [hl]; rfl
    have e3 : gd ob id = [] := by unfold gd; rw [hl]; rfl
    rw [e1, e2, e3]
    exact ⟨_, rfl, bytes_nil _, by simp, fun h => by omega, fun y hy => by simp [Value.ownBlock] at hy, Only.refl _ _⟩
  | true =>
    obtain ⟨i, rfl, hi, hlo⟩ := live_in_of hl
    have e1 : gk ob i = (ob i).kd := by unfold gk; rw [hl]; rfl
    have e2 : ge ob i = 0 := by unfold ge; rw [hl]; rfl
    have e3 : gd ob i = (ob i).dat := by unfold gd; rw [hl]; rfl
    have hH : (ob i).dat.length ≤ 180 ∧ ∀ j, j < (ob i).dat.length → dF (ob i).dat j < 256 := by
      obtain ⟨⟨tab, hd, us, nf, bk, hs, hin⟩, _, _⟩ := h
      have hH := hin.rows.held i hi (liveO_ne hlo)
      exact ⟨hH.n180, hH.by8⟩
    refine (get_in h i hi hlo _ rfl).mono ?_
    rintro e w' ⟨rfl, hh, ho⟩
    rw [e1, e2, e3]
    refine ⟨_, rfl, bytesAt_ofP hh, hH.1, fun _ => ⟨w.heap.size, _, rfl, U8s.of hh hH.2, hH.1, Nat.le_refl _, hh.lt⟩, fun y hy => ?_, ho⟩
    have : w.heap.size = y := by simpa [Value.ownBlock] using hy
    subst this
    exact ⟨Nat.le_refl _, hh.lt⟩

theorem mget_all (h : MAt w m ob rt hist H) (id : Int) :
    Calls Try.prog 54 #[.pointer (some ⟨m, 0, none⟩), .int .i64 id] w fun e w' => ∃ v, e = .returned (.tuple #[.int .i64 (gk ob id : Nat), v, .int .i64 (ge ob id : Nat)]) ∧ BytesAt w' v (gd ob id).length (dF (gd ob id)) ∧ (∀ y, v.ownBlock = some y → w.heap.size ≤ y ∧ y < w'.heap.size) ∧ Only (fun _ => False) w w' := by
  cases hl : liveI ob id with
  | false =>
    refine (mget_no h id hl).mono ?_
    rintro e w' ⟨rfl, rfl⟩
    have e1 : gk ob id = 0 := by unfold gk; rw [hl]; rfl
    have e2 : ge ob id = 6 := by unfold ge; rw [hl]; rfl
    have e3 : gd ob id = [] := by unfold gd; rw [hl]; rfl
    rw [e1, e2, e3]
    exact ⟨_, rfl, bytes_nil _, fun y hy => by simp [Value.ownBlock] at hy, Only.refl _ _⟩
  | true =>
    obtain ⟨i, rfl, hi, hlo⟩ := live_in_of hl
    have e1 : gk ob i = (ob i).kd := by unfold gk; rw [hl]; rfl
    have e2 : ge ob i = 0 := by unfold ge; rw [hl]; rfl
    have e3 : gd ob i = (ob i).dat := by unfold gd; rw [hl]; rfl
    refine (mget_in h i hi hlo _ rfl).mono ?_
    rintro e w' ⟨rfl, hh, hlt, ho⟩
    rw [e1, e2, e3]
    refine ⟨_, rfl, hh, fun y hy => ?_, ho⟩
    have : w.heap.size = y := by simpa [Value.ownBlock] using hy
    subst this
    exact ⟨Nat.le_refl _, hlt⟩
end
end Go.Proofs.Qxb6500419a
