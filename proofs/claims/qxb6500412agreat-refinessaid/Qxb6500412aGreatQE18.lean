/-
  OWN WORK. QUERY's MODEL: New, Crashed.
-/
import Derived.Test.Qxb6500412aGreatQE17
import Derived.Test.Qxb6500412aGreatXMu0
namespace Go.Proofs.Qxb6500412aGreat
open Go.RowKit Go.PlainAid
set_option linter.unusedSimpArgs false
set_option linter.unusedVariables false

theorem MmS.z0 {v : Value} {l : List GE} {D : Db} (hl : l.map (·.t) = D) (hD : DOk D) : MmS (Mm.z.setV 0 v l) (Mu0 D) := by
  refine ⟨by rw [Mm.setV_db, if_pos rfl]; exact hl, fun j hj => ?_, fun s hs => rfl, fun s i t hs hi => rfl, fun s nm hs _ => rfl, fun s hs h => (by cases h), fun s i hs hi _ => rfl, fun s hs => ?_⟩
  · rw [Mm.setV_db]
    by_cases c : j = 0
    · rw [if_pos c, hl]; exact hD
    · rw [if_neg c]; exact DOk.nil
  · show D = mixD (fun _ => 0) _ D
    rw [mix_zero (fun nm => by omega)]
section
variable {w w' : World} {k q : Nat} {M : Mu} {H : Nat → Prop}
set_option maxRecDepth 100000 in
set_option maxHeartbeats 4000000 in
theorem xmcrashed_any (X : MX w k M H) : Calls Tryz.prog 76 #[.pointer (some ⟨k, 0, none⟩)] w fun e w' => ∃ n H', e = .returned (.pointer (some ⟨n, 0, none⟩)) ∧ MX w' n (Mu0 M.com) H' ∧ (∀ b, H' b → w.heap.size ≤ b) ∧ Only (fun _ => False) w w' := by
  have N0 := MMt.new w
  have oo : Only (fun _ => False) w (w.alloc (.cells #[.slice none 0 0, .bool false, .bool false, .bool false, .bool false, .int .i64 0, .int .i64 0, .int .i64 0, .int .i64 0, .int .i64 0, .int .i64 0, .int .i64 0, .int .i64 0, .int .i64 0, .int .i64 0, .int .i64 0, .int .i64 0, .slice none 0 0, .slice none 0 0, .slice none 0 0, .slice none 0 0] 113)) := (Only.refl _ w).alloc _
  obtain ⟨Z, h, hS, hA⟩ := X.ex
  have h0 := h.quiet oo
  have hkn : k < w.heap.size := X.kl
  have HH := hide (And.intro h (And.intro hS (And.intro N0 (And.intro oo h0))))
  clear X h hS hA N0 oo h0
  go_enter Tryz.func76, Tryz.ntmps76
  go_upto_region 2 with fail
  generalize w.alloc (.cells #[.slice none 0 0, .bool false, .bool false, .bool false, .bool false, .int .i64 0, .int .i64 0, .int .i64 0, .int .i64 0, .int .i64 0, .int .i64 0, .int .i64 0, .int .i64 0, .int .i64 0, .int .i64 0, .int .i64 0, .int .i64 0, .slice none 0 0, .slice none 0 0, .slice none 0 0, .slice none 0 0] 113) = w0 at *
  generalize hn : w.heap.size = n at *
  have HN := hide hn
  clear hn
  have C1 := hide (mdbClone_any (dk := k) (o := 0) (unhide HH).2.2.2.2.c0 ((unhide HH).2.2.2.2.ml 0 (by omega)))
  have k0 := (unhide HH).2.2.2.2.has.lt
  have q0 := (unhide HH).2.2.1.has.lt
  go_wp2_with fail
  refine (unhide C1).mono ?_
  rintro e w1 ⟨g, m, l', rfl, hM, ht, hf, o1⟩
  clear C1 k0 q0
  have n1 := (unhide HH).2.2.1.quiet o1
  have c0 := n1.c0
  have f0 := n1.fr 0
  have nl1 := n1.has.lt
  have o4 : Only (fun b => b = n) w1 (w1.setCell ⟨n, 0, none⟩ (.slice (some ⟨g, 0, none⟩) m m)) := only1 _ _
  have o5 : Only (fun b => b = n) w0 (w1.setCell ⟨n, 0, none⟩ (.slice (some ⟨g, 0, none⟩) m m)) := (o1.mono (fun _ _ e => e.elim)).trans o4 (fun _ _ e => e)
  have nw0 := (unhide HH).2.2.1.has.lt
  have m1 : MMt (w1.setCell ⟨n, 0, none⟩ (.slice (some ⟨g, 0, none⟩) m m)) n (Mm.z.setV 0 (.slice (some ⟨g, 0, none⟩) m m) l') := (unhide HH).2.2.1.setV (j := 0) (by omega) o5 (fun b hb => .inl hb) (n1.has.setCell _ _) (hM.keep o4 (fun b hb e => by have := hf b (.inl hb); have e' : b = n := e; omega) (fun b hb e => by have := hf b (.inr hb); have e' : b = n := e; omega)) (fun b hb => .inr (hf b (.inl hb)))
  have hz := o1.size
  have hcom : l'.map (·.t) = M.com := ht.trans (unhide HH).2.1.com
  have hok : DOk M.com := by have h := (unhide HH).2.1.ok 0 (by omega); rw [(unhide HH).2.1.com] at h; exact h
  have FF := hide (show ∃ n' H', Ending.returned (.pointer (some ⟨n, 0, none⟩)) = .returned (.pointer (some ⟨n', 0, none⟩)) ∧ MX (w1.setCell ⟨n, 0, none⟩ (.slice (some ⟨g, 0, none⟩) m m)) n' (Mu0 M.com) H' ∧ (∀ b, H' b → w.heap.size ≤ b) ∧ Only (fun _ => False) w (w1.setCell ⟨n, 0, none⟩ (.slice (some ⟨g, 0, none⟩) m m)) from by
    refine ⟨n, (Mm.z.setV 0 (.slice (some ⟨g, 0, none⟩) m m) l').A n, rfl, ⟨⟨_, m1, MmS.z0 hcom hok, fun b hb => hb⟩, fun b hb => m1.lt b hb⟩, fun b hb => ?_, (unhide HH).2.2.2.1.lateS o5 (fun b (e : b = n) => by have := unhide HN; omega)⟩
    have hN := unhide HN
    rcases Mm.setV_A hb with c | c
    · rcases c with (c | ⟨_, _, c⟩) | ⟨_, _, c⟩
      · omega
      · rcases c with c | ⟨_, c, _⟩
        · cases c
        · cases c
      · obtain ⟨_, c, _⟩ := c
        cases c
    · have := hf b c
      have := (unhide HH).2.2.2.1.size
      omega)
  clear hM ht hf o1 n1 o4 o5 nw0 m1 hz hcom hok
  simp [Mm.z] at c0
  go_wp2_with fail
  go_ret
  exact unhide FF
/-- A new engine of the model. -/
def NeP (w : World) (Q : Mu) (e : Ending) (w' : World) : Prop := ∃ k' q' H', e = .returned (.pointer (some ⟨k', 0, none⟩)) ∧ ME w' k' q' Q H' ∧ w.heap.size ≤ k' ∧ (∀ b, H' b → w.heap.size ≤ b) ∧ Only (fun _ => False) w w'
set_option maxRecDepth 100000 in
theorem smcrashed_any (E : ME w k q M H) : Calls Tryz.prog 28 #[.pointer (some ⟨k, 0, none⟩)] w (NeP w (Mu0 M.com)) := by
  have e0 : w.cell? ⟨k, 0, none⟩ = some (.pointer (some ⟨q, 0, none⟩)) := E.has.cell 0
  have kl := E.kl
  have C := hide (xmcrashed_any E.mx)
  go_enter Tryz.func28, Tryz.ntmps28
  go_wp2_with fail
  refine (unhide C).mono ?_
  rintro e w2 ⟨n, H', rfl, hX, hH, o⟩
  have oA : Only (fun _ => False) w2 (w2.alloc (.cells #[.pointer (some ⟨n, 0, none⟩)] 115)) := (Only.refl _ _).alloc _
  have N := Has.new w2 #[.pointer (some ⟨n, 0, none⟩)] 115
  have FF := hide (show NeP w (Mu0 M.com) (.returned (.pointer (some ⟨w2.heap.size, 0, none⟩))) (w2.alloc (.cells #[.pointer (some ⟨n, 0, none⟩)] 115)) from ⟨_, n, H', rfl, ⟨N, hX.quiet oA, fun c => by have := hX.lt _ c; omega⟩, o.size, hH, o.trans oA (fun _ _ e => e)⟩)
  clear hX hH o oA N C
  go_wp2_with fail
  go_ret
  exact unhide FF
set_option maxRecDepth 100000 in
theorem smnew_any (w : World) : Calls Tryz.prog 21 #[] w (NeP w (Mu0 [])) := by
  have N0 := MMt.new w
  have oo : Only (fun _ => False) w (w.alloc (.cells #[.slice none 0 0, .bool false, .bool false, .bool false, .bool false, .int .i64 0, .int .i64 0, .int .i64 0, .int .i64 0, .int .i64 0, .int .i64 0, .int .i64 0, .int .i64 0, .int .i64 0, .int .i64 0, .int .i64 0, .int .i64 0, .slice none 0 0, .slice none 0 0, .slice none 0 0, .slice none 0 0] 113)) := (Only.refl _ w).alloc _
  have X : MX (w.alloc (.cells #[.slice none 0 0, .bool false, .bool false, .bool false, .bool false, .int .i64 0, .int .i64 0, .int .i64 0, .int .i64 0, .int .i64 0, .int .i64 0, .int .i64 0, .int .i64 0, .int .i64 0, .int .i64 0, .int .i64 0, .int .i64 0, .slice none 0 0, .slice none 0 0, .slice none 0 0, .slice none 0 0] 113)) w.heap.size (Mu0 []) (Mm.z.A w.heap.size) := ⟨⟨Mm.z, N0, ⟨rfl, fun j hj => ⟨fun t ht => (by cases ht), List.Pairwise.nil, Nat.zero_le _⟩, fun s hs => rfl, fun s i t hs hi => (by cases hi), fun s nm hs _ => rfl, fun s hs h => (by cases h), fun s i hs hi _ => rfl, fun s hs => rfl⟩, fun b hb => hb⟩, N0.lt⟩
  have hA : ∀ b, Mm.z.A w.heap.size b → w.heap.size ≤ b := by
    intro b c
    rcases c with (c | ⟨_, _, c⟩) | ⟨_, _, c⟩
    · omega
    · rcases c with c | ⟨_, c, _⟩
      · cases c
      · cases c
    · obtain ⟨_, c, _⟩ := c
      cases c
  have oA : Only (fun _ => False) (w.alloc (.cells #[.slice none 0 0, .bool false, .bool false, .bool false, .bool false, .int .i64 0, .int .i64 0, .int .i64 0, .int .i64 0, .int .i64 0, .int .i64 0, .int .i64 0, .int .i64 0, .int .i64 0, .int .i64 0, .int .i64 0, .int .i64 0, .slice none 0 0, .slice none 0 0, .slice none 0 0, .slice none 0 0] 113)) ((w.alloc (.cells #[.slice none 0 0, .bool false, .bool false, .bool false, .bool false, .int .i64 0, .int .i64 0, .int .i64 0, .int .i64 0, .int .i64 0, .int .i64 0, .int .i64 0, .int .i64 0, .int .i64 0, .int .i64 0, .int .i64 0, .int .i64 0, .slice none 0 0, .slice none 0 0, .slice none 0 0, .slice none 0 0] 113)).alloc (.cells #[.pointer (some ⟨w.heap.size, 0, none⟩)] 115)) := (Only.refl _ _).alloc _
  have N := Has.new' (w.alloc (.cells #[.slice none 0 0, .bool false, .bool false, .bool false, .bool false, .int .i64 0, .int .i64 0, .int .i64 0, .int .i64 0, .int .i64 0, .int .i64 0, .int .i64 0, .int .i64 0, .int .i64 0, .int .i64 0, .int .i64 0, .int .i64 0, .slice none 0 0, .slice none 0 0, .slice none 0 0, .slice none 0 0] 113)) #[.pointer (some ⟨w.heap.size, 0, none⟩)] 115 (w.heap.size + 1) (by simp)
  have hsz : (w.alloc (.cells #[.slice none 0 0, .bool false, .bool false, .bool false, .bool false, .int .i64 0, .int .i64 0, .int .i64 0, .int .i64 0, .int .i64 0, .int .i64 0, .int .i64 0, .int .i64 0, .int .i64 0, .int .i64 0, .int .i64 0, .int .i64 0, .slice none 0 0, .slice none 0 0, .slice none 0 0, .slice none 0 0] 113)).heap.size = w.heap.size + 1 := by simp
  have FF := hide (show NeP w (Mu0 []) (.returned (.pointer (some ⟨w.heap.size + 1, 0, none⟩))) ((w.alloc (.cells #[.slice none 0 0, .bool false, .bool false, .bool false, .bool false, .int .i64 0, .int .i64 0, .int .i64 0, .int .i64 0, .int .i64 0, .int .i64 0, .int .i64 0, .int .i64 0, .int .i64 0, .int .i64 0, .int .i64 0, .int .i64 0, .slice none 0 0, .slice none 0 0, .slice none 0 0, .slice none 0 0] 113)).alloc (.cells #[.pointer (some ⟨w.heap.size, 0, none⟩)] 115)) from ⟨_, w.heap.size, _, rfl, ⟨N, X.quiet oA, fun c => by have := X.lt _ c; omega⟩, by omega, hA, oo.trans oA (fun _ _ e => e)⟩)
  clear N0 oo X hA oA N hsz
  go_enter Tryz.func21, Tryz.ntmps21
  go_wp2_with fail
  go_ret
  exact unhide FF
end
end Go.Proofs.Qxb6500412aGreat
