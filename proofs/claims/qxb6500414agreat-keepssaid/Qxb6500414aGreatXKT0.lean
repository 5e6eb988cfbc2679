/-
  OWN WORK. TXN, Keeps: Data, whole; a shot turned (written by tools/gen_xkt.py).
-/
import Derived.Test.Qxb6500414aGreatXKD0
import Derived.Test.Qxb6500414aGreatXKD7
import Derived.Test.Qxb6500414aGreatXKD8
import Derived.Test.Qxb6500414aGreatXKD9
import Derived.Test.Qxb6500414aGreatXKD10
import Derived.Test.Qxb6500414aGreatXKD11
import Derived.Test.Qxb6500414aGreatXKP3
namespace Go.Proofs.Qxb6500414aGreat
open Go.RowKit Go.PlainAid
set_option linter.unusedSimpArgs false
set_option linter.unusedVariables false
/-- What Step leaves. -/
def StpP (lo : Nat) (w : World) (k2 : Nat) (N : Mu) (e : Ending) (w' : World) : Prop := e = .returned (.bool true) ∧ Sht lo w' k2 N ∧ Only (fun b => b = k2) w w'
section
variable {lo : Nat} {w w' : World} {k k2 : Nat} {M N : Mu} {s t : Nat} {T : Tb} {am : AnM} {an : An} {a : Int}
theorem StpP.of (h : Sht lo w k2 N) (o : Only (fun _ => False) w w') : StpP lo w k2 N (.returned (.bool true)) w' := ⟨rfl, h.quiet o, o.mono (fun _ _ e => e.elim)⟩
theorem Sht.turn (h : Sht lo w k N) (hs : s < 4) (b : Bool) (hM : M.com = N.com) (hl : M.lk = N.lk) (hr : M.see = N.see) (ha : ∀ o, o < 4 → M.act o = if o = s then b else N.act o) : Sht lo (w.setCell ⟨k, 10 + s, none⟩ (.bool b)) k M := by
  obtain ⟨S, h1, h2⟩ := h
  refine ⟨S.setA s b, h1.setA hs b, ⟨?_, ?_, fun o ho => ?_, fun o ho => ?_, fun o ho => ?_⟩⟩
  · rw [hM]; exact h2.nm
  · rw [hM]; exact h2.pk
  · rw [hM]
    have e : ∀ nm, M.rows o nm = N.rows o nm := fun nm => by unfold Mu.rows; rw [hr]
    have := h2.rows o ho
    refine Eq.trans (show (S.setA s b).rz o = S.rz o from rfl) (this.trans (List.map_congr_left (fun t _ => (e t.nm).symm)))
  · rw [hM, hl]; exact h2.lk o ho
  · rw [ha o ho]
    show (if o = s then b else S.act o) = _
    rw [h2.act o ho]
theorem Sht.keepK (h : Sht lo w k M) (h2 : Sht lo w k2 N) (hne : k ≠ k2) (ho : Only (fun b => b = k2) w w') : Sht lo w' k M := by
  obtain ⟨S, h1, hs⟩ := h
  obtain ⟨S2, g1, _⟩ := h2
  refine ⟨S, ⟨h1.has.keep ho hne, fun j hj => ownsRow_keep (h1.own j hj) ho (fun b hb e => ?_), h1.sep, h1.new, fun o ho4 => ⟨(h1.row o ho4).1, fun t z r hz hr => ?_⟩⟩, hs⟩
  · exact ownsRow_ne (h1.own j hj) g1.has (sty_ne j).1 b hb e
  · obtain ⟨us, hu⟩ := (h1.row o ho4).2 t z r hz hr
    refine ⟨us, hu.keep ho (fun b _ hb e => ?_)⟩
    have e' : b = k2 := e
    subst e'
    obtain ⟨c, hc | hc⟩ := hb
    · exact Has.ne hc g1.has (by decide) rfl
    · exact Has.ne hc g1.has (by decide) rfl
theorem xldata_7 (H : Sht lo w k M) (H2 : Sht lo w k2 N) (A : AnAt w am an) (a ob oc : Int) (os ot : ByteArray) (ht : ot.size ≤ maxLen) (ok : MuOk M) (okN : MuOk N) (kM : MuK M) (kN : MuK N) (gM : MuG M) (gN : MuG N) (hop : MuOp M a ob oc os ot 7 N an) : Calls Tryz.prog 81 #[.pointer (some ⟨k, 0, none⟩), .pointer (some ⟨k2, 0, none⟩), opX 7 a ob oc os ot, .agg (anC am an)] w fun e w' => e = .returned (.bool true) ∧ Only (fun _ => False) w w' := by
  rcases hop.d7 ok kM rfl with hE | ⟨s, t, T, rfl, D, hact, hW⟩
  · exact xldata_e7 H H2 ok.mub okN.mub A ob oc os ot ht hE
  · exact xldata_o7 H H2 ok.mub okN.mub A ob oc os ot ht D ⟨gM s _ D.s4, ok.rg s _ D.s4⟩ (fun r hr => hr.elim (fun h => (ok.mus kM gM).pk s t T r D.s4 D.hT h) (fun h => (okN.mus kN gN).pk s t T r D.s4 (by rw [D.com]; exact D.hT) h)) hW
theorem xldata_8 (H : Sht lo w k M) (H2 : Sht lo w k2 N) (A : AnAt w am an) (a ob oc : Int) (os ot : ByteArray) (ht : ot.size ≤ maxLen) (ok : MuOk M) (okN : MuOk N) (kM : MuK M) (kN : MuK N) (gM : MuG M) (gN : MuG N) (hop : MuOp M a ob oc os ot 8 N an) : Calls Tryz.prog 81 #[.pointer (some ⟨k, 0, none⟩), .pointer (some ⟨k2, 0, none⟩), opX 8 a ob oc os ot, .agg (anC am an)] w fun e w' => e = .returned (.bool true) ∧ Only (fun _ => False) w w' := by
  rcases hop.d8 ok kM rfl with hE | ⟨s, t, T, rfl, D, hact, hW⟩
  · exact xldata_e8 H H2 ok.mub okN.mub A ob oc os ot ht hE
  · exact xldata_o8 H H2 ok.mub okN.mub A ob oc os ot ht D ⟨gM s _ D.s4, ok.rg s _ D.s4⟩ (fun r hr => hr.elim (fun h => (ok.mus kM gM).pk s t T r D.s4 D.hT h) (fun h => (okN.mus kN gN).pk s t T r D.s4 (by rw [D.com]; exact D.hT) h)) hW
theorem xldata_9 (H : Sht lo w k M) (H2 : Sht lo w k2 N) (A : AnAt w am an) (a ob oc : Int) (os ot : ByteArray) (ht : ot.size ≤ maxLen) (ok : MuOk M) (okN : MuOk N) (kM : MuK M) (kN : MuK N) (gM : MuG M) (gN : MuG N) (hop : MuOp M a ob oc os ot 9 N an) : Calls Tryz.prog 81 #[.pointer (some ⟨k, 0, none⟩), .pointer (some ⟨k2, 0, none⟩), opX 9 a ob oc os ot, .agg (anC am an)] w fun e w' => e = .returned (.bool true) ∧ Only (fun _ => False) w w' := by
  rcases hop.d9 ok kM rfl with hE | ⟨s, t, T, rfl, D, hact, hW⟩
  · exact xldata_e9 H H2 ok.mub okN.mub A ob oc os ot ht hE
  · exact xldata_o9 H H2 ok.mub okN.mub A ob oc os ot ht D ⟨gM s _ D.s4, ok.rg s _ D.s4⟩ (fun r hr => hr.elim (fun h => (ok.mus kM gM).pk s t T r D.s4 D.hT h) (fun h => (okN.mus kN gN).pk s t T r D.s4 (by rw [D.com]; exact D.hT) h)) hW
theorem xldata_10 (H : Sht lo w k M) (H2 : Sht lo w k2 N) (A : AnAt w am an) (a ob oc : Int) (os ot : ByteArray) (ht : ot.size ≤ maxLen) (ok : MuOk M) (okN : MuOk N) (kM : MuK M) (kN : MuK N) (gM : MuG M) (gN : MuG N) (hop : MuOp M a ob oc os ot 10 N an) : Calls Tryz.prog 81 #[.pointer (some ⟨k, 0, none⟩), .pointer (some ⟨k2, 0, none⟩), opX 10 a ob oc os ot, .agg (anC am an)] w fun e w' => e = .returned (.bool true) ∧ Only (fun _ => False) w w' := by
  rcases hop.d10 ok kM rfl with hE | ⟨s, t, T, rfl, D, hact, hS, hL, hR, hK⟩
  · exact xldata_e10 H H2 ok.mub okN.mub A ob oc os ot ht hE
  · exact xldata_o10 H H2 ok.mub okN.mub A ob oc os ot ht D ⟨gM s _ D.s4, ok.rg s _ D.s4⟩ (fun r hr => hr.elim (fun h => (ok.mus kM gM).pk s t T r D.s4 D.hT h) (fun h => (okN.mus kN gN).pk s t T r D.s4 (by rw [D.com]; exact D.hT) h)) hS hL hR hK
theorem xldata_11 (H : Sht lo w k M) (H2 : Sht lo w k2 N) (A : AnAt w am an) (a ob oc : Int) (os ot : ByteArray) (ht : ot.size ≤ maxLen) (ok : MuOk M) (okN : MuOk N) (kM : MuK M) (kN : MuK N) (gM : MuG M) (gN : MuG N) (hop : MuOp M a ob oc os ot 11 N an) : Calls Tryz.prog 81 #[.pointer (some ⟨k, 0, none⟩), .pointer (some ⟨k2, 0, none⟩), opX 11 a ob oc os ot, .agg (anC am an)] w fun e w' => e = .returned (.bool true) ∧ Only (fun _ => False) w w' := by
  rcases hop.d11 ok kM rfl with hE | ⟨s, t, T, rfl, D, hact, hS, hL⟩
  · exact xldata_e11 H H2 ok.mub okN.mub A ob oc os ot ht hE
  · exact xldata_o11 H H2 ok.mub okN.mub A ob oc os ot ht D ⟨gM s _ D.s4, ok.rg s _ D.s4⟩ (fun r hr => hr.elim (fun h => (ok.mus kM gM).pk s t T r D.s4 D.hT h) (fun h => (okN.mus kN gN).pk s t T r D.s4 (by rw [D.com]; exact D.hT) h)) hS hL
end
end Go.Proofs.Qxb6500414aGreat
