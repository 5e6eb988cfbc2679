/-
  OWN WORK. THE TREE LAW: SamePut, SameWriteTree.
-/
import Derived.Test.Qxb6500421aGreatTLJ
namespace Go.Proofs.Qxb6500421aGreat
open Go.RowKit Go.PlainAid
set_option linter.unusedSimpArgs false
set_option linter.unusedVariables false

section
variable {w : World} {t s d m : Nat} {D : Nat → Nat} {J : Nat → Sl} {rt : Nat} {F H : Nat → Prop}
set_option maxRecDepth 100000 in
set_option maxHeartbeats 2000000 in
theorem tlPut_any {a : Option Addr} {hl cap : Nat} (h : TW w t s d m D D [] J rt (.slice a hl cap) F H) (k : Int) (str : ByteArray) (hsb : str.size ≤ maxLen) :
    Calls Tryz.prog 32 #[.pointer (some ⟨t, 0, none⟩), .pointer (some ⟨m, 0, none⟩), .int .i64 k, .string str] w fun e w' => e = .returned (.bool true) ∧ TStep w w' t s d m D J rt F H := by
  obtain ⟨w1, c1, hc1, hb1, hu1, hle1, hlc1, ho1, hs1⟩ := conv_any w str hsb
  obtain ⟨w2, c2, hc2, hb2, hu2, hle2, hlc2, ho2, hs2⟩ := conv_any w1 str hsb
  have hmi := h.md.inn
  obtain ⟨t1, t2, t3⟩ := h.ts.ts_lt
  have hmw := hmi m h.md.own
  have h2 := (h.quiet ho1).quiet ho2
  have hlen := byL_len str
  have hb1' := hb1.keep ho2 (fun _ _ h => h)
  have hu1' := hu1.keep ho2 (fun h => h)
  have g1F : ¬ F w.heap.size := fun hf => by have := t3 _ hf; omega
  have C1 : Calls Tryz.prog 56 #[.pointer (some ⟨t, 0, none⟩), .int .i64 k, .slice (some ⟨w.heap.size, 0, none⟩) str.size c1] w2 fun e w' => e = .returned (.tuple #[.int .i64 ((putA J k (byL str)).2.1 : Nat), .int .i64 ((putA J k (byL str)).2.2 : Nat)]) ∧ ∃ news F', Wrote w2 w' t s d D D [] J (putA J k (byL str)).1 rt F news F' := by
    have := tputA_any h2.ts k (byL str) (some ⟨w.heap.size, 0, none⟩) c1 (by rw [hlen] at hb1' ⊢; exact hb1') (fun j _ => byL_lt str j) (fun y hy => by
      have : w.heap.size = y := by simpa [Value.ownBlock] using hy
      subst this
      exact ⟨g1F, by omega⟩) (by simp)
    rw [hlen] at this
    exact this
  have C2 : ∀ (w3 : World) (H3 : Nat → Prop), UAt w3 m J rt (.slice a hl cap) H3 → BytesAt w3 (.slice (some ⟨w1.heap.size, 0, none⟩) str.size c2) (byL str).length (dF (byL str)) → Calls Tryz.prog 57 #[.pointer (some ⟨m, 0, none⟩), .int .i64 k, .slice (some ⟨w1.heap.size, 0, none⟩) str.size c2] w3 fun e w' => e = .returned (.tuple #[.int .i64 ((putA J k (byL str)).2.1 : Nat), .int .i64 ((putA J k (byL str)).2.2 : Nat)]) ∧ ∃ H', UAt w' m (putA J k (byL str)).1 rt (.slice a hl cap) H' ∧ (∀ y, H' y → H3 y ∨ w3.heap.size ≤ y) ∧ Only (fun y => y = m) w3 w' := fun w3 H3 hu hb => by
    have := uputA_any hu k (byL str) (some ⟨w1.heap.size, 0, none⟩) c2 (by rw [hlen] at hb ⊢; exact hb)
    rw [hlen] at this
    exact this
  obtain ⟨J2, id, er, hq⟩ : ∃ J2 id er, putA J k (byL str) = (J2, id, er) := ⟨_, _, _, rfl⟩
  rw [hq] at C1 C2
  simp only at C1 C2
  have C1 := hide C1
  have C2 := hide C2
  have HB2 := hide hb2
  have HU1 := hide hu1'
  have H2 := hide h2
  have HH := hide h
  have O12 := hide (ho1.trans ho2 (fun _ _ h => h))
  have g12 : w.heap.size < w1.heap.size := by omega
  have g22 : w1.heap.size < w2.heap.size := by omega
  have hg2w : w.heap.size ≤ w1.heap.size := by omega
  have Hg2F : Hid (¬ F w1.heap.size) := hide (fun hf => by have := t3 _ hf; omega)
  have T3 := hide t3
  have ei : ((id : Int) == (id : Int)) = true := by simp
  have ee : ((er : Int) == (er : Int)) = true := by simp
  clear hb1 hb2 hu1 hu2 hb1' hu1' h2 hq hs1 hs2 ho1 ho2 h t3 hmi hlen
  generalize hg1 : w.heap.size = g1 at *
  generalize hg2 : w1.heap.size = g2 at *
  have Hg1 := hide hg1
  clear hg1 hg2
  go_enter Tryz.func32, Tryz.ntmps32
  go_wp2_with fail
  refine (unhide C1).mono ?_
  rintro e w3 ⟨rfl, news, F', hW⟩
  have s3 := hW.only.size
  have hm3 := (unhide H2).md.keep hW.only (fun k hk e => (unhide HH).off k hk (by
    rcases e with e | e | e
    · exact .inr (.inr e)
    · exact .inr (.inl e)
    · exact .inl e))
  have C3 := hide (unhide C2 w3 H hm3 ((unhide HB2).keep hW.only (fun y hy e => by
    have : g2 = y := by simpa [Value.ownBlock] using hy
    subst this
    rcases e with e | e | e
    · omega
    · omega
    · exact unhide Hg2F e)))
  have HW := hide hW
  clear C1 C2 hm3 hW
  go_wp2_with fail
  refine (unhide C3).mono ?_
  rintro e w4 ⟨rfl, H4, hm4, hx4, ho4⟩
  have hU4 := ((unhide HU1).keep (unhide HW).only (fun e => by
    rcases e with e | e | e
    · omega
    · omega
    · exact g1F e)).keep ho4 (fun e => by omega)
  have C4 := hide (spoilB_any (n := str.size) hU4 hle1 hlc1)
  have M4 := hide hm4
  have X4 := hide hx4
  have O4 := hide ho4
  clear C3 hU4 hm4 hx4 ho4
  go_wp2_with fail
  refine (unhide C4).mono ?_
  rintro e w5 ⟨rfl, ho5⟩
  have RR := hide (TStep.both (unhide HH) (unhide O12) (unhide HW) (unhide M4) (unhide X4) (unhide O4) (frJ_le J) ho5 (fun y hy => by have := unhide Hg1; omega))
  clear C4 ho5
  go_wp2_with fail
  go_ret
  exact ⟨by first | exact rfl | simp, unhide RR⟩

set_option maxRecDepth 100000 in
set_option maxHeartbeats 2000000 in
theorem tlWrite_any {a : Option Addr} {hl cap : Nat} (h : TW w t s d m D D [] J rt (.slice a hl cap) F H) (lv : Value) (l : List En) (hE : EntsIn w lv l) (hl9 : l.length ≤ 1000) :
    Calls Tryz.prog 34 #[.pointer (some ⟨t, 0, none⟩), .pointer (some ⟨m, 0, none⟩), lv] w fun e w' => e = .returned (.bool true) ∧ TStep w w' t s d m D J rt F H := by
  have C1 := hide (copyE_any lv l hE hl9)
  have hmi := h.md.inn
  obtain ⟨t1, t2, t3⟩ := h.ts.ts_lt
  have hmw := hmi m h.md.own
  have HE := hide hE
  have HH := hide h
  have T3 := hide t3
  obtain ⟨la, lc, rfl⟩ := hE.shape
  clear hE t3 h hmi
  go_enter Tryz.func34, Tryz.ntmps34
  go_wp2_with fail
  refine (unhide C1).mono ?_
  rintro e w1 ⟨v1, rfl, hO1, hb1, ho1⟩
  have s1 := ho1.size
  have C2 := hide (copyE_any _ l ((unhide HE).keep ho1 (fun _ _ h => h)) hl9)
  have HO1 := hide hO1
  have Hb1 := hide hb1
  have HB1' := hide (ownsRow_lt hO1)
  obtain ⟨va, vc, rfl⟩ := ownsRow_shape hO1
  have Ho1 := hide ho1
  clear C1 hO1 hb1 ho1
  go_wp2_with fail
  refine (unhide C2).mono ?_
  rintro e w2 ⟨v2, rfl, hO2, hb2, ho2⟩
  have s2 := ho2.size
  have h2 := ((unhide HH).quiet (unhide Ho1)).quiet ho2
  have hO1' := (unhide HO1).keep ho2 (fun _ _ h => h)
  have C3 := twrite_any h2.ts _ l hO1'.in_ (fun y hy => by
    have := unhide Hb1 y hy
    exact ⟨by omega, by omega, fun hf => by have := unhide T3 y hf; omega⟩) (by simpa using frJ_le J) hl9
  have C4 : ∀ (w3 : World), UAt w3 m J rt (.slice a hl cap) H → EntsIn w3 v2 l → Calls Tryz.prog 64 #[.pointer (some ⟨m, 0, none⟩), v2] w3 fun e w' => e = .returned (.tuple #[.int .i64 ((wrJ J l).2.1 : Nat), .int .i64 ((wrJ J l).2.2 : Nat)]) ∧ ∃ H', UAt w' m (wrJ J l).1 rt (.slice a hl cap) H' ∧ (∀ y, H' y → H y ∨ w3.heap.size ≤ y) ∧ Only (fun y => y = m) w3 w' := fun w3 hu he => uwrite_any hu (unhide HH).ts.inv v2 l he (fun y hy => by have := hb2 y hy; omega) hl9
  obtain ⟨J2, id, er, hq⟩ : ∃ J2 id er, wrJ J l = (J2, id, er) := ⟨_, _, _, rfl⟩
  rw [hq] at C3 C4
  simp only at C3 C4
  have C3 := hide C3
  have C4 := hide C4
  have HO1' := hide hO1'
  have HO2 := hide hO2
  have Hb2 := hide hb2
  have H2 := hide h2
  have O12 := hide ((unhide Ho1).trans ho2 (fun _ _ h => h))
  obtain ⟨ua, uc, rfl⟩ := ownsRow_shape hO2
  have ei : ((id : Int) == (id : Int)) = true := by simp
  have ee : ((er : Int) == (er : Int)) = true := by simp
  clear C2 hO1' hO2 hb2 h2 hq ho2 HO1 Ho1
  go_wp2_with fail
  refine (unhide C3).mono ?_
  rintro e w3 ⟨rfl, news, F', hW⟩
  have s3 := hW.only.size
  have hm3 := (unhide H2).md.keep hW.only (fun k hk e => (unhide HH).off k hk (by
    rcases e with e | e | e
    · exact .inr (.inr e)
    · exact .inr (.inl e)
    · exact .inl e))
  have he3 := (unhide HO2).in_.keep hW.only (fun y hy e => by
    have := unhide Hb2 y hy
    rcases e with e | e | e
    · omega
    · omega
    · have := unhide T3 y e; omega)
  have C5 := hide (unhide C4 w3 hm3 he3)
  have HW := hide hW
  clear C3 C4 hm3 he3 hW
  go_wp2_with fail
  refine (unhide C5).mono ?_
  rintro e w4 ⟨rfl, H4, hm4, hx4, ho4⟩
  have hO4 := ((unhide HO1').keep (unhide HW).only (fun y hy e => by
    have := unhide Hb1 y hy
    rcases e with e | e | e
    · omega
    · omega
    · have := unhide T3 y e; omega)).keep ho4 (fun y hy e => by have := unhide Hb1 y hy; omega)
  have C6 := hide (spoilE_any hO4)
  have M4 := hide hm4
  have X4 := hide hx4
  have O4 := hide ho4
  clear C5 hO4 hm4 hx4 ho4
  go_wp2_with fail
  refine (unhide C6).mono ?_
  rintro e w5 ⟨rfl, ho5⟩
  have RR := hide (TStep.both (unhide HH) (unhide O12) (unhide HW) (unhide M4) (unhide X4) (unhide O4) (frJ_le J) ho5 (fun y hy => by
    have := unhide Hb1 y hy
    have := unhide HB1' y hy
    omega))
  clear C6 ho5
  go_wp2_with fail
  go_ret
  exact ⟨by first | exact rfl | simp, unhide RR⟩
end
end Go.Proofs.Qxb6500421aGreat
