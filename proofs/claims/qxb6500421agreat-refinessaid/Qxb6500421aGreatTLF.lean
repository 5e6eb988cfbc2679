/-
  OWN WORK. THE TREE LAW: what the observers make.
-/
import Derived.Test.Qxb6500421aGreatTLE
import Derived.Test.Qxb6500421aGreatTLC
import Derived.Test.Qxb6500421aGreatUMbr
namespace Go.Proofs.Qxb6500421aGreat
open Go.RowKit Go.PlainAid
set_option linter.unusedSimpArgs false
set_option linter.unusedVariables false

/-- What an observer has made: it may be compared and spoilt, and stands apart. -/
structure Frs (inp : World → Value → Prop) (spf : Nat) (w : World) (v : Value) (w' : World) : Prop where
  inp : inp w' v
  hb : ∀ y, v.ownBlock = some y → w.heap.size ≤ y ∧ y < w'.heap.size
  ho : Only (fun _ => False) w w'
  sp : ∀ (S : Nat → Prop) (w2 : World), Only S w' w2 → (∀ y, v.ownBlock = some y → ¬ S y) → Calls Tryz.prog spf #[v] w2 fun e w3 => e = .returned (.tuple #[]) ∧ Only (fun y => v.ownBlock = some y) w2 w3
theorem frE {w w' : World} {v : Value} {l : List En} (h : EI w (.slice none 0 0) v l w') : Frs (fun w v => EntsIn w v l) 65 w v w' := by
  refine ⟨h.own.in_, fun y hy => ⟨?_, ownsRow_lt h.own y hy⟩, h.ho.mono (fun y _ hy => by simp [Value.ownBlock] at hy), fun S w2 ho hS => spoilE_any (h.own.keep ho hS)⟩
  rcases h.hb y hy with e | e
  · simp [Value.ownBlock] at e
  · exact e
theorem frI {w w' : World} {v : Value} {l : List Int} (h : II w v l w') : Frs (fun w v => IntsIn w v l) 72 w v w' :=
  ⟨OwnI.in_ h.own, fun y hy => ⟨h.hb y hy, ownsRow_lt h.own y hy⟩, h.ho, fun S w2 ho hS => spoilI_any (OwnI.keep h.own ho hS)⟩
theorem frB {w w' : World} {v : Value} {x : List Nat} (h : GotB w v x w') (ho : Only (fun _ => False) w w') (h8 : ∀ j, j < x.length → dF x j < 256) (hl : x.length ≤ 1000) : Frs (fun w v => BytesAt w v x.length (dF x)) 58 w v w' := by
  rcases h with ⟨rfl, rfl⟩ | ⟨g, rfl, hg, hh⟩
  · refine ⟨nil_bytes w' _, fun y hy => by simp [Value.ownBlock] at hy, ho, fun S w2 ho2 hS => ?_⟩
    refine (spoilB_nil w2).mono ?_
    rintro e w3 ⟨rfl, rfl⟩
    exact ⟨rfl, Only.refl _ _⟩
  · refine ⟨bytesAt_ofU hh, fun y hy => ?_, ho, fun S w2 ho2 hS => ?_⟩
    · have : g = y := by simpa [Value.ownBlock] using hy
      subst this
      exact ⟨hg, hh.lt⟩
    · refine (spoilB_any ((U8s.of hh h8).keep ho2 (hS g rfl)) (Nat.le_refl _) (by omega)).mono ?_
      rintro e w3 ⟨rfl, o⟩
      refine ⟨rfl, o.mono (fun y _ hy => ?_)⟩
      rw [hy]; rfl
theorem TS.by8 {w : World} {t s d rt : Nat} {D B : Nat → Nat} {recs : List Rec} {J : Nat → Sl} {F : Nat → Prop} (h : TS w t s d D B recs J rt F) (id : Int) : (∀ j, j < (tgD J id).length → dF (tgD J id) j < 256) ∧ (tgD J id).length ≤ 180 := by
  unfold tgD
  by_cases hc : liveJ J id = true ∧ (J id.toNat).kd ≠ 2
  · rw [if_pos hc]
    obtain ⟨i, rfl, hi, hl⟩ := liveJ_in hc.1
    have ei : ((i : Int).toNat) = i := by simp
    rw [ei]
    obtain ⟨ob, hO, hR⟩ := h.ex
    have hlo : liveO (ob i) = true := by rw [hR.live hi]; exact hl
    obtain ⟨⟨tab, hd, us, nf, bk, hs, hin⟩, _, _⟩ := hO
    have hH := hin.rows.held i hi (liveO_ne hlo)
    rw [← (hR i hi).2.2]
    exact ⟨hH.by8, hH.n180⟩
  · rw [if_neg hc]
    exact ⟨fun j hj => by simp at hj, by simp⟩
end Go.Proofs.Qxb6500421aGreat
