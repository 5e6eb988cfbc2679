/-
  OWN WORK. THE TXN LAW: Follow, whole (written by tools/gen_xg7.py).
-/
import Derived.Test.Qxb6500414aGreatXG307
import Derived.Test.Qxb6500414aGreatXG308
import Derived.Test.Qxb6500414aGreatXG309
import Derived.Test.Qxb6500414aGreatXG310
import Derived.Test.Qxb6500414aGreatXG311
import Derived.Test.Qxb6500414aGreatXG407
import Derived.Test.Qxb6500414aGreatXG408
import Derived.Test.Qxb6500414aGreatXG409
import Derived.Test.Qxb6500414aGreatXG410
import Derived.Test.Qxb6500414aGreatXG411
import Derived.Test.Qxb6500414aGreatXG54
import Derived.Test.Qxb6500414aGreatXG55
import Derived.Test.Qxb6500414aGreatXG56
import Derived.Test.Qxb6500414aGreatXG60
import Derived.Test.Qxb6500414aGreatXG61
namespace Go.Proofs.Qxb6500414aGreat
open Go.RowKit Go.PlainAid
set_option linter.unusedSimpArgs false
set_option linter.unusedVariables false

/-- No data call answers 2 or 21. -/
def Nz (z : Int) : Prop := z ≠ 2 ∧ z ≠ 21
theorem nz_val (c : Cl) (v : Vl) : Nz (chkVal c v) := by unfold chkVal; split <;> (try split) <;> exact ⟨by simp, by simp⟩
theorem nz_row (c : List Cl) (r : List Vl) : Nz (chkRow c r) := by unfold chkRow; split <;> (try split) <;> exact ⟨by simp, by simp⟩
theorem nz_onT (D : Db) (nm : ByteArray) (f : Tb → Tb × Int) (h : ∀ t, Nz (f t).2) : Nz (onT D nm f).2 := by
  unfold onT
  split
  · exact ⟨by simp, by simp⟩
  · exact h _
theorem nz_ins (D : Db) (nm : ByteArray) (r : List Vl) : Nz (insD D nm r).2 := nz_onT D nm _ (fun t => by
  show Nz (insR t r).2
  unfold insR
  split
  · exact nz_row _ _
  · split
    · exact ⟨by simp, by simp⟩
    · split <;> exact ⟨by simp, by simp⟩)
theorem nz_upd (D : Db) (nm : ByteArray) (r : List Vl) : Nz (updD D nm r).2 := nz_onT D nm _ (fun t => by
  show Nz (updR t r).2
  unfold updR
  split
  · exact nz_row _ _
  · split <;> exact ⟨by simp, by simp⟩)
theorem nz_del (D : Db) (nm : ByteArray) (k : Vl) : Nz (delD D nm k).2 := nz_onT D nm _ (fun t => by
  show Nz (delR t k).2
  unfold delR
  split
  · exact nz_val _ _
  · split <;> exact ⟨by simp, by simp⟩)
theorem nz_lkp (D : Db) (nm : ByteArray) (k : Vl) : Nz (lkpD D nm k).2 := by
  unfold lkpD
  split
  · exact ⟨by simp, by simp⟩
  · unfold lkpR
    split
    · exact nz_val _ _
    · split <;> exact ⟨by simp, by simp⟩
theorem nz_scn (D : Db) (nm : ByteArray) (c : Int) (lo hi : Bnd) : Nz (scnD D nm c lo hi).2 := by
  unfold scnD
  split
  · exact ⟨by simp, by simp⟩
  · split
    · exact ⟨by simp, by simp⟩
    · show Nz (scnE _ _ _ _)
      unfold scnE
      split
      · exact ⟨by simp, by simp⟩
      · split
        · exact ⟨by simp, by simp⟩
        · split <;> (try split) <;> exact ⟨by simp, by simp⟩
section
variable {M M' : Mu} {a bb cc kd : Int} {s t : ByteArray} {an : An}
theorem tkz_bad {mode : Int} (hb : ¬ gdS a) : ¬ M.TkZ a s mode 0 := by
  have e : M.inT a = 20 := by unfold Mu.inT; rw [if_neg hb]
  rintro (⟨_, h⟩ | ⟨h, _⟩ | ⟨h, _⟩ | ⟨h, _⟩) <;> rw [e] at h <;> cases h
theorem alz_good {M : Mu} (h : M.AlZ a 0) : gdS a ∧ ¬ M.any := by
  rcases h with ⟨_, h⟩ | ⟨_, _, h⟩ | ⟨_, _, _, h⟩ | ⟨h1, h2, _⟩
  · cases h
  · cases h
  · cases h
  · exact ⟨h1, h2⟩
theorem MuOp.bad (hb : ¬ gdS a) (hop : MuOp M a bb cc s t kd M' an) : M' = M := by
  have e : M.inT a = 20 := by unfold Mu.inT; rw [if_neg hb]
  have nt : ∀ {mode : Int}, ¬ M.TkZ a s mode 0 := fun {mode} => tkz_bad hb
  cases hop with
  | bgY h => exact absurd h hb
  | coY h => rw [e] at h; cases h
  | roY h => rw [e] at h; cases h
  | crt _ _ h => rcases h with ⟨_, _, _, h, _⟩ | ⟨h, _⟩; (exact h); (exact absurd (alz_good h).1 hb)
  | drp _ _ h => rcases h with ⟨_, _, _, h, _⟩ | ⟨h, _⟩; (exact h); (exact absurd (alz_good h).1 hb)
  | cix _ _ h => rcases h with ⟨_, _, _, h, _⟩ | ⟨h, _⟩; (exact h); (exact absurd (alz_good h).1 hb)
  | ins _ _ h => rcases h with ⟨_, _, _, h, _⟩ | ⟨h, _⟩; (exact h); (exact absurd h nt)
  | upd _ _ h => rcases h with ⟨_, _, _, h, _⟩ | ⟨h, _⟩; (exact h); (exact absurd h nt)
  | del _ _ h => rcases h with ⟨_, _, _, h, _⟩ | ⟨h, _⟩; (exact h); (exact absurd h nt)
  | lkY h => exact absurd h nt
  | scY h => exact absurd h nt
  | _ => rfl
/-- A data call that answers 2 or 21 left all as it was. -/
theorem MuOp.still {n : Nat} (hop : MuOp M (n : Int) bb cc s t kd M' an) (hk : 7 ≤ kd ∧ kd ≤ 11) (h : an.e = 2 ∨ an.e = 21) : M' = M := by
  have key : ∀ {z : Int}, Nz z → an.e = z → False := fun hz e => by rw [e] at h; exact h.elim hz.1 hz.2
  cases hop with
  | ins _ _ h1 => rcases h1 with ⟨_, _, _, h2, _⟩ | ⟨_, _, rfl⟩; (exact h2); (exact (key (nz_ins _ _ _) rfl).elim)
  | upd _ _ h1 => rcases h1 with ⟨_, _, _, h2, _⟩ | ⟨_, _, rfl⟩; (exact h2); (exact (key (nz_upd _ _ _) rfl).elim)
  | del _ _ h1 => rcases h1 with ⟨_, _, _, h2, _⟩ | ⟨_, _, rfl⟩; (exact h2); (exact (key (nz_del _ _ _) rfl).elim)
  | lkN => rfl
  | lkY => exact (key (nz_lkp _ _ _) rfl).elim
  | scN => rfl
  | scY => exact (key (nz_scn _ _ _ _ _) rfl).elim
  | oth _ h => omega
  | _ => omega
end
section
variable {q : Gnd} {w : World} {g x kG : Nat} {M M' : Mu} {K : Nat → Prop} {m : GhM} {sh : Db} {am : AnM} {an : An} {kd a bb cc : Int} {s t : ByteArray}
theorem fo_p7 (R : RX q w g x M' K) (G : GhAt w kG m sh) (A : AnAt w am an) (hGs : ∀ k, m.A kG k → ¬ q.A k ∧ k ≠ x ∧ ¬ K k) (hAs : ∀ k, AnB am k → ¬ q.A k ∧ k ≠ x ∧ ¬ K k ∧ ¬ m.T kG k) (Se : SerI M m sh) (ok : MuOk M) {n : Nat} (hn : n < 4) (htz : t.size ≤ maxLen) (hop : MuOp M (n : Int) bb cc s t 7 M' an) : Calls Tryz.prog 15 #[.pointer (some ⟨kG, 0, none⟩), .pointer (some ⟨g, 0, none⟩), opX 7 (n : Int) bb cc s t, .agg (anC am an)] w (FoP q w g x M' K kG m am) := by
  have dt := MuOp.data hn hop (by omega)
  by_cases e2 : an.e = 2
  · have e := MuOp.still hop (by omega) (.inl e2)
    subst e
    exact fo_p7e2 R G A hGs hAs Se ok hn e2 Se
  by_cases e21 : an.e = 21
  · have e := MuOp.still hop (by omega) (.inr e21)
    subst e
    exact fo_p7e21 R G A hGs hAs Se ok hn e21 Se
  cases hov : m.ov n with
  | true => exact fo_p7ov R G A hGs hAs Se ok hn e2 e21 hov (Se.own (n := n) dt.1 (fun _ _ => rfl) (fun _ _ => rfl) (fun _ h => by rw [hov] at h; cases h))
  | false =>
    by_cases hl : 64 ≤ (m.ls n).length
    · exact fo_p7full R G A hGs hAs Se ok hn e2 e21 hov hl (Se.own (n := n) dt.1 (fun r hr => by show (if r = n then [] else m.ls r) = _; rw [if_neg hr]) (fun r hr => by show (if r = n then true else m.ov r) = _; rw [if_neg hr]) (fun _ h => by
        have h' : (if n = n then true else m.ov n) = false := h
        rw [if_pos rfl] at h'
        cases h'))
    · refine fo_p7app R G A hGs hAs Se ok hn e2 e21 hov htz (by omega) (fun v => Se.own (n := n) dt.1 (fun r hr => by show (if r = n then _ else m.ls r) = _; rw [if_neg hr]) (fun r hr => rfl) (fun ha _ => ?_))
      have e : (m.setL n v (m.ls n ++ [⟨⟨7, n, bb, cc, s, t, an⟩, am⟩])).ls n = m.ls n ++ [⟨⟨7, n, bb, cc, s, t, an⟩, am⟩] := by show (if n = n then _ else m.ls n) = _; rw [if_pos rfl]
      rw [e, List.map_append]
      rw [dt.2] at ha
      exact (Se.2 n hn ha hov).op ok hn hop (by omega) e2 e21
theorem fo_p8 (R : RX q w g x M' K) (G : GhAt w kG m sh) (A : AnAt w am an) (hGs : ∀ k, m.A kG k → ¬ q.A k ∧ k ≠ x ∧ ¬ K k) (hAs : ∀ k, AnB am k → ¬ q.A k ∧ k ≠ x ∧ ¬ K k ∧ ¬ m.T kG k) (Se : SerI M m sh) (ok : MuOk M) {n : Nat} (hn : n < 4) (htz : t.size ≤ maxLen) (hop : MuOp M (n : Int) bb cc s t 8 M' an) : Calls Tryz.prog 15 #[.pointer (some ⟨kG, 0, none⟩), .pointer (some ⟨g, 0, none⟩), opX 8 (n : Int) bb cc s t, .agg (anC am an)] w (FoP q w g x M' K kG m am) := by
  have dt := MuOp.data hn hop (by omega)
  by_cases e2 : an.e = 2
  · have e := MuOp.still hop (by omega) (.inl e2)
    subst e
    exact fo_p8e2 R G A hGs hAs Se ok hn e2 Se
  by_cases e21 : an.e = 21
  · have e := MuOp.still hop (by omega) (.inr e21)
    subst e
    exact fo_p8e21 R G A hGs hAs Se ok hn e21 Se
  cases hov : m.ov n with
  | true => exact fo_p8ov R G A hGs hAs Se ok hn e2 e21 hov (Se.own (n := n) dt.1 (fun _ _ => rfl) (fun _ _ => rfl) (fun _ h => by rw [hov] at h; cases h))
  | false =>
    by_cases hl : 64 ≤ (m.ls n).length
    · exact fo_p8full R G A hGs hAs Se ok hn e2 e21 hov hl (Se.own (n := n) dt.1 (fun r hr => by show (if r = n then [] else m.ls r) = _; rw [if_neg hr]) (fun r hr => by show (if r = n then true else m.ov r) = _; rw [if_neg hr]) (fun _ h => by
        have h' : (if n = n then true else m.ov n) = false := h
        rw [if_pos rfl] at h'
        cases h'))
    · refine fo_p8app R G A hGs hAs Se ok hn e2 e21 hov htz (by omega) (fun v => Se.own (n := n) dt.1 (fun r hr => by show (if r = n then _ else m.ls r) = _; rw [if_neg hr]) (fun r hr => rfl) (fun ha _ => ?_))
      have e : (m.setL n v (m.ls n ++ [⟨⟨8, n, bb, cc, s, t, an⟩, am⟩])).ls n = m.ls n ++ [⟨⟨8, n, bb, cc, s, t, an⟩, am⟩] := by show (if n = n then _ else m.ls n) = _; rw [if_pos rfl]
      rw [e, List.map_append]
      rw [dt.2] at ha
      exact (Se.2 n hn ha hov).op ok hn hop (by omega) e2 e21
theorem fo_p9 (R : RX q w g x M' K) (G : GhAt w kG m sh) (A : AnAt w am an) (hGs : ∀ k, m.A kG k → ¬ q.A k ∧ k ≠ x ∧ ¬ K k) (hAs : ∀ k, AnB am k → ¬ q.A k ∧ k ≠ x ∧ ¬ K k ∧ ¬ m.T kG k) (Se : SerI M m sh) (ok : MuOk M) {n : Nat} (hn : n < 4) (htz : t.size ≤ maxLen) (hop : MuOp M (n : Int) bb cc s t 9 M' an) : Calls Tryz.prog 15 #[.pointer (some ⟨kG, 0, none⟩), .pointer (some ⟨g, 0, none⟩), opX 9 (n : Int) bb cc s t, .agg (anC am an)] w (FoP q w g x M' K kG m am) := by
  have dt := MuOp.data hn hop (by omega)
  by_cases e2 : an.e = 2
  · have e := MuOp.still hop (by omega) (.inl e2)
    subst e
    exact fo_p9e2 R G A hGs hAs Se ok hn e2 Se
  by_cases e21 : an.e = 21
  · have e := MuOp.still hop (by omega) (.inr e21)
    subst e
    exact fo_p9e21 R G A hGs hAs Se ok hn e21 Se
  cases hov : m.ov n with
  | true => exact fo_p9ov R G A hGs hAs Se ok hn e2 e21 hov (Se.own (n := n) dt.1 (fun _ _ => rfl) (fun _ _ => rfl) (fun _ h => by rw [hov] at h; cases h))
  | false =>
    by_cases hl : 64 ≤ (m.ls n).length
    · exact fo_p9full R G A hGs hAs Se ok hn e2 e21 hov hl (Se.own (n := n) dt.1 (fun r hr => by show (if r = n then [] else m.ls r) = _; rw [if_neg hr]) (fun r hr => by show (if r = n then true else m.ov r) = _; rw [if_neg hr]) (fun _ h => by
        have h' : (if n = n then true else m.ov n) = false := h
        rw [if_pos rfl] at h'
        cases h'))
    · refine fo_p9app R G A hGs hAs Se ok hn e2 e21 hov htz (by omega) (fun v => Se.own (n := n) dt.1 (fun r hr => by show (if r = n then _ else m.ls r) = _; rw [if_neg hr]) (fun r hr => rfl) (fun ha _ => ?_))
      have e : (m.setL n v (m.ls n ++ [⟨⟨9, n, bb, cc, s, t, an⟩, am⟩])).ls n = m.ls n ++ [⟨⟨9, n, bb, cc, s, t, an⟩, am⟩] := by show (if n = n then _ else m.ls n) = _; rw [if_pos rfl]
      rw [e, List.map_append]
      rw [dt.2] at ha
      exact (Se.2 n hn ha hov).op ok hn hop (by omega) e2 e21
theorem fo_p10 (R : RX q w g x M' K) (G : GhAt w kG m sh) (A : AnAt w am an) (hGs : ∀ k, m.A kG k → ¬ q.A k ∧ k ≠ x ∧ ¬ K k) (hAs : ∀ k, AnB am k → ¬ q.A k ∧ k ≠ x ∧ ¬ K k ∧ ¬ m.T kG k) (Se : SerI M m sh) (ok : MuOk M) {n : Nat} (hn : n < 4) (htz : t.size ≤ maxLen) (hop : MuOp M (n : Int) bb cc s t 10 M' an) : Calls Tryz.prog 15 #[.pointer (some ⟨kG, 0, none⟩), .pointer (some ⟨g, 0, none⟩), opX 10 (n : Int) bb cc s t, .agg (anC am an)] w (FoP q w g x M' K kG m am) := by
  have dt := MuOp.data hn hop (by omega)
  by_cases e2 : an.e = 2
  · have e := MuOp.still hop (by omega) (.inl e2)
    subst e
    exact fo_p10e2 R G A hGs hAs Se ok hn e2 Se
  by_cases e21 : an.e = 21
  · have e := MuOp.still hop (by omega) (.inr e21)
    subst e
    exact fo_p10e21 R G A hGs hAs Se ok hn e21 Se
  cases hov : m.ov n with
  | true => exact fo_p10ov R G A hGs hAs Se ok hn e2 e21 hov (Se.own (n := n) dt.1 (fun _ _ => rfl) (fun _ _ => rfl) (fun _ h => by rw [hov] at h; cases h))
  | false =>
    by_cases hl : 64 ≤ (m.ls n).length
    · exact fo_p10full R G A hGs hAs Se ok hn e2 e21 hov hl (Se.own (n := n) dt.1 (fun r hr => by show (if r = n then [] else m.ls r) = _; rw [if_neg hr]) (fun r hr => by show (if r = n then true else m.ov r) = _; rw [if_neg hr]) (fun _ h => by
        have h' : (if n = n then true else m.ov n) = false := h
        rw [if_pos rfl] at h'
        cases h'))
    · refine fo_p10app R G A hGs hAs Se ok hn e2 e21 hov htz (by omega) (fun v => Se.own (n := n) dt.1 (fun r hr => by show (if r = n then _ else m.ls r) = _; rw [if_neg hr]) (fun r hr => rfl) (fun ha _ => ?_))
      have e : (m.setL n v (m.ls n ++ [⟨⟨10, n, bb, cc, s, t, an⟩, am⟩])).ls n = m.ls n ++ [⟨⟨10, n, bb, cc, s, t, an⟩, am⟩] := by show (if n = n then _ else m.ls n) = _; rw [if_pos rfl]
      rw [e, List.map_append]
      rw [dt.2] at ha
      exact (Se.2 n hn ha hov).op ok hn hop (by omega) e2 e21
theorem fo_p11 (R : RX q w g x M' K) (G : GhAt w kG m sh) (A : AnAt w am an) (hGs : ∀ k, m.A kG k → ¬ q.A k ∧ k ≠ x ∧ ¬ K k) (hAs : ∀ k, AnB am k → ¬ q.A k ∧ k ≠ x ∧ ¬ K k ∧ ¬ m.T kG k) (Se : SerI M m sh) (ok : MuOk M) {n : Nat} (hn : n < 4) (htz : t.size ≤ maxLen) (hop : MuOp M (n : Int) bb cc s t 11 M' an) : Calls Tryz.prog 15 #[.pointer (some ⟨kG, 0, none⟩), .pointer (some ⟨g, 0, none⟩), opX 11 (n : Int) bb cc s t, .agg (anC am an)] w (FoP q w g x M' K kG m am) := by
  have dt := MuOp.data hn hop (by omega)
  by_cases e2 : an.e = 2
  · have e := MuOp.still hop (by omega) (.inl e2)
    subst e
    exact fo_p11e2 R G A hGs hAs Se ok hn e2 Se
  by_cases e21 : an.e = 21
  · have e := MuOp.still hop (by omega) (.inr e21)
    subst e
    exact fo_p11e21 R G A hGs hAs Se ok hn e21 Se
  cases hov : m.ov n with
  | true => exact fo_p11ov R G A hGs hAs Se ok hn e2 e21 hov (Se.own (n := n) dt.1 (fun _ _ => rfl) (fun _ _ => rfl) (fun _ h => by rw [hov] at h; cases h))
  | false =>
    by_cases hl : 64 ≤ (m.ls n).length
    · exact fo_p11full R G A hGs hAs Se ok hn e2 e21 hov hl (Se.own (n := n) dt.1 (fun r hr => by show (if r = n then [] else m.ls r) = _; rw [if_neg hr]) (fun r hr => by show (if r = n then true else m.ov r) = _; rw [if_neg hr]) (fun _ h => by
        have h' : (if n = n then true else m.ov n) = false := h
        rw [if_pos rfl] at h'
        cases h'))
    · refine fo_p11app R G A hGs hAs Se ok hn e2 e21 hov htz (by omega) (fun v => Se.own (n := n) dt.1 (fun r hr => by show (if r = n then _ else m.ls r) = _; rw [if_neg hr]) (fun r hr => rfl) (fun ha _ => ?_))
      have e : (m.setL n v (m.ls n ++ [⟨⟨11, n, bb, cc, s, t, an⟩, am⟩])).ls n = m.ls n ++ [⟨⟨11, n, bb, cc, s, t, an⟩, am⟩] := by show (if n = n then _ else m.ls n) = _; rw [if_pos rfl]
      rw [e, List.map_append]
      rw [dt.2] at ha
      exact (Se.2 n hn ha hov).op ok hn hop (by omega) e2 e21
/-- Follow answers true, and the ghost keeps up. -/
theorem follow_any (R : RX q w g x M' K) (G : GhAt w kG m sh) (A : AnAt w am an) (hGs : ∀ k, m.A kG k → ¬ q.A k ∧ k ≠ x ∧ ¬ K k) (hAs : ∀ k, AnB am k → ¬ q.A k ∧ k ≠ x ∧ ¬ K k ∧ ¬ m.T kG k) (Se : SerI M m sh) (ok : MuOk M) (htz : t.size ≤ maxLen) (hop : MuOp M a bb cc s t kd M' an) : Calls Tryz.prog 15 #[.pointer (some ⟨kG, 0, none⟩), .pointer (some ⟨g, 0, none⟩), opX kd a bb cc s t, .agg (anC am an)] w (FoP q w g x M' K kG m am) := by
  by_cases hg : gdS a
  rotate_left
  · have e := MuOp.bad hg hop
    subst e
    exact fo_bad R G A hGs hAs Se ok hg Se
  obtain ⟨n, rfl⟩ : ∃ n : Nat, a = n := ⟨a.toNat, by have := hg.1; omega⟩
  have hn : n < 4 := by have := hg.2; omega
  have en : ((n : Nat) : Int).toNat = n := by omega
  have hin : M.inT (n : Int) = 0 → M.act n = true := fun h => by
    unfold Mu.inT at h
    rw [if_pos hg, en] at h
    by_cases c : M.act n = true
    · exact c
    · rw [if_neg c] at h; cases h
  cases hop with
  | bgN z h =>
    have hz : z ≠ 0 := by rcases h with ⟨_, h⟩ | ⟨_, _, h⟩ <;> (rw [h]; decide)
    exact fo_e1 R G A hGs hAs Se ok hn hz Se
  | bgY h h2 =>
    rw [en] at h2 R ⊢
    exact fo_b1 R G A hGs hAs Se ok hn rfl (Se.begin ok hn h2)
  | coN h => exact fo_e2 R G A hGs hAs Se ok hn h Se
  | coY h =>
    rw [en] at R ⊢
    have hsee : (M.commit n).see n = (M.commit n).com := by show (if n = n then M.see n else _) = _; rw [if_pos rfl]; rfl
    cases hov : m.ov n with
    | true => exact fo_cov R G A hGs hAs Se ok hn rfl hov hsee (fun v l => Se.commit ok hn (fun r hr => rfl) (fun r hr => by show (if r = n then false else m.ov r) = _; rw [if_neg hr]))
    | false =>
      have hp := Se.play ok hn (hin h) hov
      exact fo_cmt R G A hGs hAs Se ok hn rfl hov hp.1 hp.2 hsee (fun v l => Se.commit ok hn (fun r hr => by show (if r = n then [] else m.ls r) = _; rw [if_neg hr]) (fun r hr => rfl))
  | roN h => exact fo_e3 R G A hGs hAs Se ok hn h Se
  | roY h =>
    rw [en] at R ⊢
    exact fo_b3 R G A hGs hAs Se ok hn rfl Se.roll
  | crt _ _ h =>
    rcases h with ⟨z, h0, _, rfl, rfl⟩ | ⟨h0, h1, rfl, rfl⟩
    · exact fo_e4 R G A hGs hAs Se ok hn h0 Se
    · have es := Se.1
      exact fo_s4 R G A hGs hAs Se ok hn rfl htz (by rw [es]; exact h1) (by rw [es]; rfl) (by rw [es]; rfl) (fun v l => by rw [es]; exact (show SerI M (m.setS v l) sh from Se).schema (alz_good h0).2 _)
  | drp _ _ h =>
    rcases h with ⟨z, h0, _, rfl, rfl⟩ | ⟨h0, h1, rfl, rfl⟩
    · exact fo_e5 R G A hGs hAs Se ok hn h0 Se
    · have es := Se.1
      exact fo_s5 R G A hGs hAs Se ok hn rfl htz (by rw [es]; exact h1) (by rw [es]; rfl) (by rw [es]; rfl) (fun v l => by rw [es]; exact (show SerI M (m.setS v l) sh from Se).schema (alz_good h0).2 _)
  | cix _ _ h =>
    rcases h with ⟨z, h0, _, rfl, rfl⟩ | ⟨h0, h1, rfl, rfl⟩
    · exact fo_e6 R G A hGs hAs Se ok hn h0 Se
    · have es := Se.1
      exact fo_s6 R G A hGs hAs Se ok hn rfl htz (by rw [es]; exact h1) (by rw [es]; rfl) (by rw [es]; rfl) (fun v l => by rw [es]; exact (show SerI M (m.setS v l) sh from Se).schema (alz_good h0).2 _)
  | ins _ _ h => exact fo_p7 R G A hGs hAs Se ok hn htz (.ins _ _ h)
  | upd _ _ h => exact fo_p8 R G A hGs hAs Se ok hn htz (.upd _ _ h)
  | del _ _ h => exact fo_p9 R G A hGs hAs Se ok hn htz (.del _ _ h)
  | lkN z h h2 => exact fo_p10 R G A hGs hAs Se ok hn htz (.lkN z h h2)
  | lkY h => exact fo_p10 R G A hGs hAs Se ok hn htz (.lkY h)
  | scN z h h2 => exact fo_p11 R G A hGs hAs Se ok hn htz (.scN z h h2)
  | scY h => exact fo_p11 R G A hGs hAs Se ok hn htz (.scY h)
  | oth _ h => exact fo_oth R G A hGs hAs Se ok hn (by omega) Se
  | _ => exact fo_oth R G A hGs hAs Se ok hn (by omega) Se
end
end Go.Proofs.Qxb6500414aGreat
