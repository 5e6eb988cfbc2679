/-
  OWN WORK. THE TREE LAW's WALK: its parts.
-/
import Derived.Test.Qxb6500421aGreatTLB
namespace Go.Proofs.Qxb6500421aGreat
open Go.RowKit Go.PlainAid
set_option linter.unusedSimpArgs false
set_option linter.unusedVariables false

theorem foldl_same {α β : Type} {f g : α → β → α} : ∀ (l : List β) (a : α), (∀ b ∈ l, ∀ a, f a b = g a b) → l.foldl f a = l.foldl g a
  | [], _, _ => rfl
  | b :: l, a, h => by
    rw [List.foldl_cons, List.foldl_cons, h b (by simp)]
    exact foldl_same l _ (fun x hx => h x (by simp [hx]))
theorem markP_congr {J J' : Nat → Sl} (hE : JEq J J') (hI : Inv J) : ∀ (n i : Nat) (s : Nat → Bool), In i → (J i).st ≠ 0 → markP n J i s = markP n J' i s
  | 0, _, _, _, _ => rfl
  | n + 1, i, s, hi, h0 => by
    unfold markP
    rw [← hE i hi]
    by_cases hs : s i = true
    · rw [if_pos hs, if_pos hs]
    · rw [if_neg hs, if_neg hs]
      refine foldl_same _ _ (fun r hr a => ?_)
      have hk := hI.kid hi h0 hr
      by_cases hd : r.dir = true
      · rw [if_pos hd, if_pos hd]
        exact markP_congr hE hI n r.id a hk.1 hk.2
      · rw [if_neg hd, if_neg hd]
theorem liveJ_congr {J J' : Nat → Sl} (hE : JEq J J') (id : Int) : liveJ J id = liveJ J' id := by
  by_cases h : 1 ≤ id ∧ id ≤ 48
  · obtain ⟨i, rfl⟩ : ∃ i : Nat, id = i := ⟨id.toNat, by omega⟩
    have hi : In i := ⟨by omega, by omega⟩
    rw [liveJ_nat hi, liveJ_nat hi, hE i hi]
  · unfold liveJ
    rw [decide_eq_false h]; rfl
theorem Allike.of {J J' : Nat → Sl} {rt rt' : Nat} (hE : JEq J J') (hI : Inv J) (hr : rt = rt') : Allike J J' rt rt' := by
  have hl := liveJ_congr hE
  have key : ∀ id : Int, liveJ J id = true → In id.toNat ∧ J id.toNat = J' id.toNat ∧ liveS (J id.toNat) = true := fun id h => by
    obtain ⟨i, rfl, hi, hs⟩ := liveJ_in h
    have e : ((i : Int).toNat) = i := by simp
    rw [e]
    exact ⟨hi, hE i hi, hs⟩
  refine ⟨hr, ?_, fun id _ _ => ?_⟩
  · unfold frJ
    apply cntTo_congr
    intro i hi
    unfold isFreeS
    by_cases h0 : i = 0
    · subst h0; rfl
    · rw [hE i ⟨by omega, by omega⟩]
  · have hE0 : trE J id = trE J' id := by
      unfold trE
      rw [← hl id]
      cases h : liveJ J id with
      | false => rfl
      | true => rw [(key id h).2.1]
    refine ⟨?_, ?_, ?_, ?_, hE0, ?_⟩
    · unfold tgD
      rw [← hl id]
      cases h : liveJ J id with
      | false => simp
      | true => rw [(key id h).2.1]
    · unfold tgE; rw [← hl id]
    · unfold tgK
      rw [← hl id]
      cases h : liveJ J id with
      | false => rfl
      | true => rw [(key id h).2.1]
    · unfold trL
      rw [← hE0]
      by_cases h : trE J id = 0
      · rw [if_pos h, if_pos h]
        obtain ⟨i, rfl, hi, _, _⟩ := trE_zero h
        have e : ((i : Int).toNat) = i := by simp
        rw [e, hE i hi]
      · rw [if_neg h, if_neg h]
    · unfold mbL
      rw [← hE0]
      by_cases h : trE J id = 0
      · rw [if_pos h, if_pos h]
        obtain ⟨i, rfl, hi, hs, _⟩ := trE_zero h
        have e : ((i : Int).toNat) = i := by simp
        rw [e, markP_congr hE hI 6 i _ hi (liveS_ne hs)]
      · rw [if_neg h, if_neg h]
theorem Allike.eq {J J' : Nat → Sl} {rt rt' : Nat} (h : Allike J J' rt rt') (hI : Inv J) (hI' : Inv J') (hd : ∀ i, In i → (J i).st = 0 ∨ (J i).st = 2) (hd' : ∀ i, In i → (J' i).st = 0 ∨ (J' i).st = 2) : rt = rt' ∧ JEq J J' := ⟨h.1, h.view.eq hI hI' hd hd'⟩

/-- What holds at every round's head. -/
structure TVI (w : World) (vb t m mb dk : Nat) (wr : World) : Prop where
  ex : ∃ s d D B recs J rt hist F H J0 rt0 G R, TW wr t s d m D B recs J rt hist F H ∧ (∃ hist0, UAt wr mb J0 rt0 hist0 G) ∧ Inv J0 ∧ DeskAt wr dk R ∧ D = replayB B recs ∧ (∀ kk, kk < recs.length → Shows (replayB B (recs.take kk)) rt0 (abortJ J0)) ∧ (recs = [] → JEq (abortJ J) (abortJ J0) ∧ rt = rt0) ∧ (∀ r ∈ recs, r.1 < 145) ∧ recs.length ≤ 1000 ∧
    Has wr vb #[.pointer (some ⟨d, 0, none⟩), .pointer (some ⟨s, 0, none⟩)] 30 ∧ (∀ x, F x ∨ H x ∨ G x ∨ R x ∨ x = s ∨ x = t → w.heap.size ≤ x ∧ x ≠ vb) ∧ (∀ x, G x → ¬ (F x ∨ H x ∨ R x ∨ x = s ∨ x = t)) ∧ (∀ x, R x → ¬ (F x ∨ H x ∨ x = s ∨ x = t))
  bel : Below w.heap.size w wr
  vb : w.heap.size ≤ vb
theorem TVI.keep {w : World} {vb t m mb dk : Nat} {wr w' : World} (h : TVI w vb t m mb dk wr) (ho : Only (fun _ => False) wr w') : TVI w vb t m mb dk w' := by
  obtain ⟨⟨s, d, D, B, recs, J, rt, hist, F, H, J0, rt0, G, R, j, ⟨hist0, hb⟩, h1, h2, h3, h4, h5, h6, h7, h8, h9, h10, h11⟩, hbel, hvb⟩ := h
  exact ⟨⟨s, d, D, B, recs, J, rt, hist, F, H, J0, rt0, G, R, j.quiet ho, ⟨hist0, hb.quiet ho⟩, h1, h2.keep ho (fun _ _ h => h), h3, h4, h5, h6, h7, h8.keep ho (fun h => h), h9, h10, h11⟩, Only.bel hbel ho (fun _ h => h.elim), hvb⟩

/-- What the cut found, and must still be there behind it. -/
structure TVK (vb top d s0 : Nat) (D B : Nat → Nat) (recs : List Rec) (F : Nat → Prop) (m : Nat) (J : Nat → Sl) (rt : Nat) (H : Nat → Prop) (mb : Nat) (J0 : Nat → Sl) (rt0 : Nat) (G : Nat → Prop) (dk : Nat) (R : Nat → Prop) (b0 ko : Nat) (oc : Array Value) (w0 w : World) : Prop where
  dv : DevAt w d D B recs F
  md : ∃ hist, UAt w m J rt hist H
  mb : ∃ hist, UAt w mb J0 rt0 hist G
  de : DeskAt w dk R
  kb : Has w b0 #[.pointer (some ⟨d, 0, none⟩), .pointer (some ⟨s0, 0, none⟩)] 30
  kop : Has w ko oc 44
  lt : ∀ k, F k ∨ H k ∨ G k ∨ R k ∨ k = b0 ∨ k = ko → k < top ∧ k ≠ vb
  bel : Below w0.heap.size w0 w
  h0 : w0.heap.size ≤ top ∧ w0.heap.size ≤ vb
  le : top ≤ w.heap.size
section
variable {vb top d s0 : Nat} {D B : Nat → Nat} {recs : List Rec} {F : Nat → Prop} {m : Nat} {J : Nat → Sl} {rt : Nat} {H : Nat → Prop} {mb : Nat} {J0 : Nat → Sl} {rt0 : Nat} {G : Nat → Prop} {dk : Nat} {R : Nat → Prop} {b0 ko : Nat} {oc : Array Value} {w0 w : World}
theorem TVK.keep {S : Nat → Prop} {w' : World} (h : TVK vb top d s0 D B recs F m J rt H mb J0 rt0 G dk R b0 ko oc w0 w) (ho : Only S w w') (hS : ∀ k, S k → top ≤ k ∨ k = vb) : TVK vb top d s0 D B recs F m J rt H mb J0 rt0 G dk R b0 ko oc w0 w' := by
  have off : ∀ k, F k ∨ H k ∨ G k ∨ R k ∨ k = b0 ∨ k = ko → ¬ S k := fun k hk hs => by
    have := h.lt k hk
    rcases hS k hs with h | h <;> omega
  have h0 := h.h0
  obtain ⟨hist, hm⟩ := h.md
  obtain ⟨hist0, hb⟩ := h.mb
  exact ⟨h.dv.keep ho (fun k hk => off k (.inl hk)), ⟨hist, hm.keep ho (fun k hk => off k (.inr (.inl hk)))⟩, ⟨hist0, hb.keep ho (fun k hk => off k (.inr (.inr (.inl hk))))⟩, h.de.keep ho (fun k hk => off k (.inr (.inr (.inr (.inl hk))))), h.kb.keep ho (off _ (.inr (.inr (.inr (.inr (.inl rfl)))))), h.kop.keep ho (off _ (.inr (.inr (.inr (.inr (.inr rfl)))))), h.lt,
    Only.bel h.bel ho (fun k hk => by rcases hS k hk with h | h <;> omega), h.h0, Nat.le_trans h.le ho.size⟩
theorem TVK.quiet {w' : World} (h : TVK vb top d s0 D B recs F m J rt H mb J0 rt0 G dk R b0 ko oc w0 w) (ho : Only (fun _ => False) w w') : TVK vb top d s0 D B recs F m J rt H mb J0 rt0 G dk R b0 ko oc w0 w' := h.keep ho (fun _ h => h.elim)
end
/-- The layer opened over a cut image. -/
structure TVN (vb lo hi t s d : Nat) (D0 : Nat → Nat) (J : Nat → Sl) (rt : Nat) (F : Nat → Prop) (w : World) : Prop where
  ts : TS w t s d D0 D0 [] J rt F
  kv : Has w vb #[.pointer (some ⟨d, 0, none⟩), .pointer (some ⟨s, 0, none⟩)] 30
  rg : ∀ k, F k ∨ k = s ∨ k = t → lo ≤ k ∧ k < hi ∧ k ≠ vb
  vh : vb < hi
  le : hi ≤ w.heap.size
section
variable {vb lo hi t s d : Nat} {D0 : Nat → Nat} {J : Nat → Sl} {rt : Nat} {F : Nat → Prop} {w : World}
theorem TVN.keep {S : Nat → Prop} {w' : World} (h : TVN vb lo hi t s d D0 J rt F w) (ho : Only S w w') (hS : ∀ k, S k → hi ≤ k) : TVN vb lo hi t s d D0 J rt F w' := by
  have hv := h.vh
  refine ⟨h.ts.keep ho (fun hs => ?_) (fun hs => ?_) (fun k hk hs => ?_), h.kv.keep ho (fun hs => ?_), h.rg, h.vh, Nat.le_trans h.le ho.size⟩
  · have := hS _ hs; have := h.rg t (.inr (.inr rfl)); omega
  · have := hS _ hs; have := h.rg s (.inr (.inl rfl)); omega
  · have := hS k hs; have := h.rg k (.inl hk); omega
  · have := hS _ hs; omega
theorem TVN.quiet {w' : World} (h : TVN vb lo hi t s d D0 J rt F w) (ho : Only (fun _ => False) w w') : TVN vb lo hi t s d D0 J rt F w' := h.keep ho (fun _ h => h.elim)
/-- Two models of the state behind the recovery, and the layer: the round's end. -/
theorem TVN.fin {w0 : World} {m mb dk : Nat} {hist hist0 : Value} {H G R : Nat → Prop} (h : TVN vb lo hi t s d D0 J rt F w) (hm : UAt w m J rt hist H) (hb : UAt w mb J rt hist0 G) (hd : DeskAt w dk R) (hlo : w0.heap.size ≤ lo) (hbel : Below w0.heap.size w0 w) (hvb : w0.heap.size ≤ vb)
    (hH : ∀ k, H k → w0.heap.size ≤ k ∧ k ≠ vb ∧ ¬ (F k ∨ k = s ∨ k = t)) (hG : ∀ k, G k → w0.heap.size ≤ k ∧ k ≠ vb ∧ ¬ (F k ∨ k = s ∨ k = t) ∧ ¬ H k ∧ ¬ R k) (hR : ∀ k, R k → w0.heap.size ≤ k ∧ k ≠ vb ∧ ¬ (F k ∨ k = s ∨ k = t) ∧ ¬ H k) : TVI w0 vb t m mb dk w := by
  refine ⟨⟨s, d, D0, D0, [], J, rt, hist, F, H, J, rt, G, R, ⟨h.ts, hm, fun k hk => (hH k hk).2.2⟩, ⟨hist0, hb⟩, h.ts.inv, hd, rfl, fun kk hk => by simp at hk, fun _ => ⟨JEq.refl _, rfl⟩, fun r hr => by simp at hr, by simp, h.kv, ?_, ?_, ?_⟩, hbel, hvb⟩
  · rintro x (hx | hx | hx | hx | hx | hx)
    · have := h.rg x (.inl hx); omega
    · have := hH x hx; omega
    · have := hG x hx; omega
    · have := hR x hx; omega
    · have := h.rg x (.inr (.inl hx)); omega
    · have := h.rg x (.inr (.inr hx)); omega
  · rintro k hk (e | e | e | e | e)
    · exact (hG k hk).2.2.1 (.inl e)
    · exact (hG k hk).2.2.2.1 e
    · exact (hG k hk).2.2.2.2 e
    · exact (hG k hk).2.2.1 (.inr (.inl e))
    · exact (hG k hk).2.2.1 (.inr (.inr e))
  · rintro k hk (e | e | e | e)
    · exact (hR k hk).2.2.1 (.inl e)
    · exact (hR k hk).2.2.2 e
    · exact (hR k hk).2.2.1 (.inr (.inl e))
    · exact (hR k hk).2.2.1 (.inr (.inr e))
end
theorem TS.dev {w : World} {t s d : Nat} {D B : Nat → Nat} {recs : List Rec} {J : Nat → Sl} {rt : Nat} {F : Nat → Prop} (h : TS w t s d D B recs J rt F) : DevAt w d D B recs F := by
  obtain ⟨ob, hO, _⟩ := h.ex
  exact hO.dev
/-- The device marked. -/
theorem TS.marked {w w' : World} {t s d : Nat} {D B : Nat → Nat} {recs : List Rec} {J : Nat → Sl} {rt : Nat} {F : Nat → Prop} (h : TS w t s d D B recs J rt F) (hd : DevAt w' d D D [] F) (ho : Only F w w') : TS w' t s d D D [] J rt F := by
  obtain ⟨ob, hO, hR⟩ := h.ex
  obtain ⟨⟨tab, hdd, us, nf, bk, hs, hi⟩, _, hf⟩ := hO
  exact ⟨h.tab.keep ho h.tF, ⟨ob, ⟨⟨tab, hdd, us, nf, bk, hs.keep ho hf, hi⟩, hd, hf⟩, hR⟩, h.inv, h.ts, h.tF⟩
end Go.Proofs.Qxb6500421aGreat
