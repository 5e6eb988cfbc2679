/-
  OWN WORK. THE LAW OF DIFF: the bounds of a patch; the law's state.
-/
import Derived.Test.Qxb6500416aDL8
namespace Go.Proofs.Qxb6500416a
open Go.RowKit Go.PlainAid
set_option linter.unusedSimpArgs false
set_option linter.unusedVariables false

/-- A hunk that a register may hold. -/
structure KB (k : Hk) : Prop where
  del : k.del.length ≤ 2049
  ins : k.ins.length ≤ 2049
  sd : ∀ x ∈ k.del, x.length ≤ 9223372036854775807
  si : ∀ x ∈ k.ins, x.length ≤ 9223372036854775807
  lo : -9223372036854775808 ≤ k.at_
  hi : k.at_ ≤ 9223372036854775807
structure PB (p : List Hk) : Prop where
  len : p.length ≤ 2049
  all : ∀ k ∈ p, KB k
theorem PB.nil : PB [] := ⟨by simp, fun k hk => by simp at hk⟩
theorem PB.len1 {p : List Hk} (h : PB p) : p.length ≤ 100000 := Nat.le_trans h.len (by omega)
theorem PB.lens {p : List Hk} (h : PB p) : ∀ k ∈ p, k.del.length ≤ 100000 ∧ k.ins.length ≤ 100000 := fun k hk => ⟨Nat.le_trans (h.all k hk).del (by omega), Nat.le_trans (h.all k hk).ins (by omega)⟩
theorem PB.strs {p : List Hk} (h : PB p) : ∀ k ∈ p, (∀ x ∈ k.del, x.length ≤ 9223372036854775807) ∧ (∀ x ∈ k.ins, x.length ≤ 9223372036854775807) := fun k hk => ⟨(h.all k hk).sd, (h.all k hk).si⟩
theorem PB.ats {p : List Hk} (h : PB p) : ∀ k ∈ p, -9223372036854775808 ≤ k.at_ ∧ k.at_ ≤ 9223372036854775807 := fun k hk => ⟨(h.all k hk).lo, (h.all k hk).hi⟩
theorem cutL_le {α : Type} (l : List α) (a b : Nat) : (cutL l a b).length ≤ l.length := by simp [cutL]; omega
theorem cutL_mem {α : Type} (l : List α) (a b : Nat) : ∀ x ∈ cutL l a b, x ∈ l := fun x hx => List.mem_of_mem_drop (List.mem_of_mem_take hx)
theorem gapH_len (la lb : List Str) (pi pj i j : Nat) : (gapH la lb pi pj i j).length ≤ 1 := by unfold gapH; split <;> simp
theorem gapH_mem {la lb : List Str} {pi pj i j : Nat} {k : Hk} (h : k ∈ gapH la lb pi pj i j) : k = ⟨pi, cutL la pi i, cutL lb pj j⟩ := by
  unfold gapH at h
  split at h
  · simpa using h
  · simp at h
theorem hkF_len (la lb : List Str) : ∀ (m : List Int) (i pi pj : Nat), (hkF la lb m i pi pj).length ≤ m.length + 1
  | [], i, pi, pj => by
    have := gapH_len la lb pi pj i lb.length
    simpa [hkF] using this
  | j :: m, i, pi, pj => by
    rw [hkF]
    split
    · have := hkF_len la lb m (i + 1) pi pj
      simp only [List.length_cons]; omega
    · have := hkF_len la lb m (i + 1) (i + 1) (j.toNat + 1)
      have := gapH_len la lb pi pj i j.toNat
      simp only [List.length_append, List.length_cons]; omega
theorem hkF_mem (la lb : List Str) : ∀ (m : List Int) (i pi pj : Nat), pi ≤ i → ∀ k ∈ hkF la lb m i pi pj, ∃ (q r s t : Nat), q ≤ i + m.length ∧ k = ⟨q, cutL la q r, cutL lb s t⟩
  | [], i, pi, pj, hp, k, hk => ⟨pi, _, _, _, by simp; omega, gapH_mem (by simpa [hkF] using hk)⟩
  | j :: m, i, pi, pj, hp, k, hk => by
    rw [hkF] at hk
    split at hk
    · obtain ⟨q, r, s, t, h1, h2⟩ := hkF_mem la lb m (i + 1) pi pj (by omega) k hk
      exact ⟨q, r, s, t, by simp only [List.length_cons]; omega, h2⟩
    · rcases List.mem_append.1 hk with hk | hk
      · exact ⟨pi, _, _, _, by omega, gapH_mem hk⟩
      · obtain ⟨q, r, s, t, h1, h2⟩ := hkF_mem la lb m (i + 1) (i + 1) (j.toNat + 1) (by omega) k hk
        exact ⟨q, r, s, t, by simp only [List.length_cons]; omega, h2⟩
theorem diffP_PB (a b : ByteArray) (ha : a.size ≤ 1024) (hb : b.size ≤ 1024) : PB (diffP a b) := by
  have la := linesOf_len a
  have lb := linesOf_len b
  have sa := linesOf_size a
  have sb := linesOf_size b
  unfold diffP
  have ml := mtc_len _ (linesOf a) (linesOf b) 0 (Nat.le_refl _)
  refine ⟨?_, fun k hk => ?_⟩
  · have := hkF_len (linesOf a) (linesOf b) (mtc (linesOf a) (linesOf b) 0) 0 0 0
    omega
  · obtain ⟨q, r, s, t, h1, rfl⟩ := hkF_mem _ _ _ _ _ _ (Nat.le_refl _) k hk
    have c1 := cutL_le (linesOf a) q r
    have c2 := cutL_le (linesOf b) s t
    refine ⟨by show (cutL _ _ _).length ≤ _; omega, by show (cutL _ _ _).length ≤ _; omega, fun x hx => ?_, fun x hx => ?_, by show _ ≤ (q : Int); omega, by show (q : Int) ≤ _; omega⟩
    · have := sa x (cutL_mem _ _ _ x hx); omega
    · have := sb x (cutL_mem _ _ _ x hx); omega
/-- The law's state: its own block, the engine (F), the registers (R), the kept lists (M); all of it lies at B or above. -/
structure LS (B : Nat) (w : World) (l e : Nat) (mp pv r0 r1 k0 k1 k2 k3 : Value) (tx : ByteArray) (hs : List HV) (p : List Hk) (A0 A1 : List Fl) (L : List Str) (F R M : Nat → Prop) : Prop where
  lw : LW w l (.pointer (some ⟨e, 0, none⟩)) mp pv (.string tx) r0 r1 k0 k1 k2 k3
  ep : EP w e L F
  pat : PatO w pv hs p R
  dst : Dst hs
  pb : PB p
  f0 : OwnF w r0 A0
  f1 : OwnF w r1 A1
  n0 : A0.length ≤ 9
  n1 : A1.length ≤ 9
  rf : ∀ y, r0.ownBlock = some y ∨ r1.ownBlock = some y → R y
  r01 : ∀ y, r0.ownBlock = some y → r1.ownBlock ≠ some y
  kl0 : KL w 49 9 1 patS k0 M
  kl1 : KL w 33 62 3 patH k1 M
  kl2 : KL w 34 60 3 patF k2 M
  kl3 : KL w 63 65 3 patC k3 M
  sFR : ∀ y, F y → ¬ R y
  sFM : ∀ y, F y → ¬ M y
  sRM : ∀ y, R y → ¬ M y
  lF : ¬ F l
  lR : ¬ R l
  lM : ¬ M l
  Rlt : ∀ y, R y → y < w.heap.size
  Mlt : ∀ y, M y → y < w.heap.size
  bl : B ≤ l
  bF : ∀ y, F y → B ≤ y
  bR : ∀ y, R y → B ≤ y
  bM : ∀ y, M y → B ≤ y
  bw : B ≤ w.heap.size
section
variable {B : Nat} {w w' : World} {l e : Nat} {mp pv r0 r1 k0 k1 k2 k3 : Value} {tx : ByteArray} {hs : List HV} {p : List Hk} {A0 A1 : List Fl} {L : List Str} {F R M : Nat → Prop}
theorem LS.engine {F' : Nat → Prop} {L' : List Str} (h : LS B w l e mp pv r0 r1 k0 k1 k2 k3 tx hs p A0 A1 L F R M) (he : EP w' e L' F') (hF : ∀ k, F' k → F k ∨ w.heap.size ≤ k) (ho : Only F w w') : LS B w' l e mp pv r0 r1 k0 k1 k2 k3 tx hs p A0 A1 L' F' R M := by
  have hz := ho.size
  have ll := Has.lt h.lw
  have nR : ∀ y, R y → ¬ F y := fun y hr hf => h.sFR y hf hr
  have nM : ∀ y, M y → ¬ F y := fun y hr hf => h.sFM y hf hr
  exact { lw := Has.keep h.lw ho h.lF, ep := he, pat := h.pat.keep ho nR, dst := h.dst, pb := h.pb, f0 := ownsRow_keep h.f0 ho (fun y hy => nR y (h.rf y (.inl hy))), f1 := ownsRow_keep h.f1 ho (fun y hy => nR y (h.rf y (.inr hy))), n0 := h.n0, n1 := h.n1, rf := h.rf, r01 := h.r01, kl0 := h.kl0.keep ho nM, kl1 := h.kl1.keep ho nM, kl2 := h.kl2.keep ho nM, kl3 := h.kl3.keep ho nM, sFR := fun y hf hr => by rcases hF y hf with h1 | h1; exact h.sFR y h1 hr; have := h.Rlt y hr; omega, sFM := fun y hf hr => by rcases hF y hf with h1 | h1; exact h.sFM y h1 hr; have := h.Mlt y hr; omega, sRM := h.sRM, lF := fun hf => by rcases hF l hf with h1 | h1; exact h.lF h1; omega, lR := h.lR, lM := h.lM, Rlt := fun y hy => by have := h.Rlt y hy; omega, Mlt := fun y hy => by have := h.Mlt y hy; omega, bl := h.bl, bF := fun y hf => by rcases hF y hf with h1 | h1; exact h.bF y h1; have := h.bw; omega, bR := h.bR, bM := h.bM, bw := by have := h.bw; omega }
theorem LS.quiet (h : LS B w l e mp pv r0 r1 k0 k1 k2 k3 tx hs p A0 A1 L F R M) (ho : Only (fun _ => False) w w') : LS B w' l e mp pv r0 r1 k0 k1 k2 k3 tx hs p A0 A1 L F R M :=
  h.engine (h.ep.keep ho (fun _ _ h => h)) (fun k hk => .inl hk) (ho.mono (fun _ _ h => h.elim))
end
/-- The state, with all its parts hidden. -/
def LI (B : Nat) (w : World) (l : Nat) : Prop := ∃ e mp pv r0 r1 k0 k1 k2 k3 tx hs p A0 A1 L F R M, LS B w l e mp pv r0 r1 k0 k1 k2 k3 tx hs p A0 A1 L F R M
theorem LI.quiet {B : Nat} {w w' : World} {l : Nat} (h : LI B w l) (ho : Only (fun _ => False) w w') : LI B w' l := by
  obtain ⟨e, mp, pv, r0, r1, k0, k1, k2, k3, tx, hs, p, A0, A1, L, F, R, M, h⟩ := h
  exact ⟨e, mp, pv, r0, r1, k0, k1, k2, k3, tx, hs, p, A0, A1, L, F, R, M, h.quiet ho⟩
/-- What an op leaves. -/
def Stp (B : Nat) (l : Nat) (w w' : World) : Prop := LI B w' l ∧ Only (fun y => B ≤ y) w w'

-- both sides' Diff and Merge, for texts of every length
def bigD (a b : ByteArray) : Prop := 1024 < a.size ∨ 1024 < b.size
instance (a b : ByteArray) : Decidable (bigD a b) := by unfold bigD; exact inferInstance
def dP (a b : ByteArray) : List Hk := if bigD a b then [] else diffP a b
def dN (a b : ByteArray) : Int := if bigD a b then 4 else 0
theorem dP_PB (a b : ByteArray) : PB (dP a b) := by
  unfold dP
  split
  · exact PB.nil
  · rename_i h
    unfold bigD at h
    exact diffP_PB a b (by omega) (by omega)
theorem ddiff_all {w : World} {e : Nat} {L : List Str} {F : Nat → Prop} (h : EP w e L F) (a b : ByteArray) :
    Calls Try.prog 19 #[.pointer (some ⟨e, 0, none⟩), .string a, .string b] w fun x w' => ∃ v' hs F' L', x = .returned (.tuple #[v', .int .i64 (dN a b)]) ∧ PatO w' v' hs (dP a b) (fun y => w.heap.size ≤ y ∧ ¬ F' y) ∧ Dst hs ∧ EP w' e L' F' ∧ (∀ k, F' k → F k ∨ w.heap.size ≤ k) ∧ Only F w w' := by
  unfold dP dN
  by_cases hb : bigD a b
  · rw [if_pos hb, if_pos hb]
    refine (ddiff_big (e := e) a b hb w).mono ?_
    rintro x w1 ⟨rfl, rfl⟩
    exact ⟨_, [], F, L, rfl, PatO.nil _ _, by simp [Dst, hvB], h, fun k hk => .inl hk, Only.refl _ _⟩
  · rw [if_neg hb, if_neg hb]
    unfold bigD at hb
    exact ddiff_any h a b (by omega) (by omega)
theorem dmdiff_all (mp : Value) (a b : ByteArray) (w : World) :
    Calls Try.prog 20 #[mp, .string a, .string b] w fun x w' => ∃ v' hs, x = .returned (.tuple #[v', .int .i64 (dN a b)]) ∧ PatO w' v' hs (dP a b) (fun y => w.heap.size ≤ y) ∧ Only (fun _ => False) w w' := by
  unfold dP dN
  by_cases hb : bigD a b
  · rw [if_pos hb, if_pos hb]
    refine (dmdiff_big mp a b hb w).mono ?_
    rintro x w1 ⟨rfl, rfl⟩
    exact ⟨_, [], rfl, PatO.nil _ _, Only.refl _ _⟩
  · rw [if_neg hb, if_neg hb]
    unfold bigD at hb
    exact dmdiff_fit mp a b (by omega) (by omega) w
def bigM (b o t : ByteArray) : Prop := 1024 < b.size ∨ 1024 < o.size ∨ 1024 < t.size
instance (b o t : ByteArray) : Decidable (bigM b o t) := by unfold bigM; exact inferInstance
def mS (b o t : ByteArray) : ByteArray := if bigM b o t then ⟨#[]⟩ else sb (mergeT b o t)
def mK (b o t : ByteArray) : Int := if bigM b o t then 0 else (mergeN b o t : Nat)
def mE (b o t : ByteArray) : Int := if bigM b o t then 4 else 0
theorem dmerge_all {w : World} {e : Nat} {L : List Str} {F : Nat → Prop} (h : EP w e L F) (b o t : ByteArray) :
    Calls Try.prog 28 #[.pointer (some ⟨e, 0, none⟩), .string b, .string o, .string t] w fun x w' => x = .returned (.tuple #[.string (mS b o t), .int .i64 (mK b o t), .int .i64 (mE b o t)]) ∧ ∃ F' L', EP w' e L' F' ∧ (∀ k, F' k → F k ∨ w.heap.size ≤ k) ∧ Only F w w' := by
  unfold mS mK mE
  by_cases hb : bigM b o t
  · rw [if_pos hb, if_pos hb, if_pos hb]
    refine (dmerge_big (e := e) b o t hb).mono ?_
    rintro x w1 ⟨rfl, rfl⟩
    exact ⟨rfl, F, L, h, fun k hk => .inl hk, Only.refl _ _⟩
  · rw [if_neg hb, if_neg hb, if_neg hb]
    unfold bigM at hb
    exact dmerge_fit h b o t (by omega) (by omega) (by omega)
theorem dmmerge_all (mp : Value) (b o t : ByteArray) (w : World) :
    Calls Try.prog 29 #[mp, .string b, .string o, .string t] w fun x w' => x = .returned (.tuple #[.string (mS b o t), .int .i64 (mK b o t), .int .i64 (mE b o t)]) ∧ Only (fun _ => False) w w' := by
  unfold mS mK mE
  by_cases hb : bigM b o t
  · rw [if_pos hb, if_pos hb, if_pos hb]
    refine (dmmerge_big mp b o t hb w).mono ?_
    rintro x w1 ⟨rfl, rfl⟩
    exact ⟨rfl, Only.refl _ _⟩
  · rw [if_neg hb, if_neg hb, if_neg hb]
    unfold bigM at hb
    exact dmmerge_fit mp b o t (by omega) (by omega) (by omega) w
theorem untouched_li {B : Nat} {w : World} {l : Nat} (h : LI B w l) :
    Calls Try.prog 13 #[.pointer (some ⟨l, 0, none⟩)] w fun e w' => e = .returned (.bool true) ∧ Only (fun _ => False) w w' := by
  obtain ⟨e, mp, pv, r0, r1, k0, k1, k2, k3, tx, hs, p, A0, A1, L, F, R, M, h⟩ := h
  exact untouched_any h.lw h.kl0 h.kl1 h.kl2 h.kl3
set_option maxRecDepth 100000 in
set_option maxHeartbeats 4000000 in
theorem sameMerge_any {B : Nat} {w : World} {l : Nat} (h : LI B w l) (b o t : ByteArray) :
    Calls Try.prog 17 #[.pointer (some ⟨l, 0, none⟩), .string b, .string o, .string t] w fun x w' => x = .returned (.bool true) ∧ Stp B l w w' := by
  obtain ⟨e, mp, pv, r0, r1, k0, k1, k2, k3, tx, hs, p, A0, A1, L, F, R, M, h⟩ := h
  have C1 := hide (dmerge_all h.ep b o t)
  have C2 := hide (dmmerge_all mp b o t)
  have c0 := Has.cell h.lw 0
  have ll := Has.lt h.lw
  have H := hide h
  clear h
  generalize mS b o t = S at *
  generalize mK b o t = N at *
  generalize mE b o t = E at *
  go_enter Try.func17, Try.ntmps17
  go_wp2_with fail
  refine (unhide C1).mono ?_
  rintro x w1 ⟨rfl, F', L', e1, f1, o1⟩
  have h1 := (unhide H).engine e1 f1 o1
  have c1 := Has.cell h1.lw 1
  have ll1 := Has.lt h1.lw
  have H1 := hide h1
  have O1 := hide (o1.mono (T := fun y => B ≤ y) (fun y _ hy => (unhide H).bF y hy))
  clear h1 e1 f1 o1 H C1 c0
  go_wp2_with fail
  refine (unhide C2 w1).mono ?_
  rintro x w2 ⟨rfl, o2⟩
  have R := hide (And.intro ((unhide H1).quiet o2) ((unhide O1).trans o2 (fun _ _ h => h.elim)))
  clear o2 C2 H1 O1
  go_wp2_with fail
  go_ret
  exact ⟨rfl, ⟨_, _, _, _, _, _, _, _, _, _, _, _, _, _, _, _, _, _, (unhide R).1⟩, (unhide R).2⟩
end Go.Proofs.Qxb6500416a
