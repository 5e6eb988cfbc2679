/-
  OWN WORK. THE LAW OF DIFF: the lists that the law keeps; Own.
-/
import Derived.Test.Qxb6500416aDL3
import Derived.Test.Qxb6500416aDKept
namespace Go.Proofs.Qxb6500416a
open Go.RowKit Go.PlainAid
set_option linter.unusedSimpArgs false
set_option linter.unusedVariables false

def stampB : ByteArray := ⟨#[0, 115, 116, 97, 109, 112]⟩
def patS (_ : Nat) : Value := .string stampB
def patH (j : Nat) : Value := if j % 3 = 0 then .int .i64 (-1) else .slice none 0 0
def patF (j : Nat) : Value := if j % 3 = 2 then .int .i64 (-1) else .string stampB
def patC (j : Nat) : Value := if j % 3 = 0 then .string stampB else .int .i64 (-1)
/-- A list that bears the stamp in every place. -/
def Stm (w : World) (t sz : Nat) (pat : Nat → Value) (v : Value) : Prop := ∃ g n, v = .slice (some ⟨g, 0, none⟩) n n ∧ n ≤ 9223372036854775807 ∧ Has w g (tabV (n * sz) pat) t
/-- A list of lists that bear the stamp. -/
structure KL (w : World) (e t sz : Nat) (pat : Nat → Value) (mv : Value) (M : Nat → Prop) : Prop where
  ex : ∃ xs, KeptRow w e mv xs ∧ xs.length ≤ 64 ∧ ∀ x ∈ xs, Stm w t sz pat x ∧ ∀ y, x.ownBlock = some y → M y
  own : ∀ y, mv.ownBlock = some y → M y
theorem Stm.keep {S : Nat → Prop} {w w' : World} {t sz : Nat} {pat : Nat → Value} {v : Value} (h : Stm w t sz pat v) (ho : Only S w w') (hS : ∀ y, v.ownBlock = some y → ¬ S y) : Stm w' t sz pat v := by
  obtain ⟨g, n, rfl, h1, h2⟩ := h
  exact ⟨g, n, rfl, h1, h2.keep ho (hS g rfl)⟩
theorem KL.keep {S : Nat → Prop} {w w' : World} {e t sz : Nat} {pat : Nat → Value} {mv : Value} {M : Nat → Prop} (h : KL w e t sz pat mv M) (ho : Only S w w') (hS : ∀ y, M y → ¬ S y) : KL w' e t sz pat mv M := by
  obtain ⟨⟨xs, h1, h2, h3⟩, h4⟩ := h
  exact ⟨⟨xs, h1.keep ho (fun y hy => hS y (h4 y hy)), h2, fun x hx => ⟨(h3 x hx).1.keep ho (fun y hy => hS y ((h3 x hx).2 y hy)), (h3 x hx).2⟩⟩, h4⟩
theorem KL.mono {w : World} {e t sz : Nat} {pat : Nat → Value} {mv : Value} {M M' : Nat → Prop} (h : KL w e t sz pat mv M) (hM : ∀ y, M y → M' y) : KL w e t sz pat mv M' := by
  obtain ⟨⟨xs, h1, h2, h3⟩, h4⟩ := h
  exact ⟨⟨xs, h1, h2, fun x hx => ⟨(h3 x hx).1, fun y hy => hM y ((h3 x hx).2 y hy)⟩⟩, fun y hy => hM y (h4 y hy)⟩
theorem KL.nil (w : World) (e t sz : Nat) (pat : Nat → Value) (M : Nat → Prop) : KL w e t sz pat (.slice none 0 0) M := ⟨⟨[], KeptRow.nil _ _, by simp, fun x hx => by simp at hx⟩, fun y hy => by simp [Value.ownBlock] at hy⟩
/-- Kept rows are not the lists themselves: their types part them. -/
theorem Stm.ne {w : World} {e t sz : Nat} {pat : Nat → Value} {v mv : Value} {xs : List Value} (h : Stm w t sz pat v) (hk : KeptRow w e mv xs) (he : e ≠ t) : ∀ y, v.ownBlock = some y → mv.ownBlock ≠ some y := by
  obtain ⟨g, n, rfl, _, h2⟩ := h
  intro y hy hm
  simp [Value.ownBlock] at hy
  subst hy
  exact hk.ne h2 he _ hm rfl
def Mx (M : Nat → Prop) (v : Value) (w w' : World) : Nat → Prop := fun y => M y ∨ v.ownBlock = some y ∨ (w.heap.size ≤ y ∧ y < w'.heap.size)
theorem Try.infoStrs : (Try.prog.info? 49).map (fun i => (i.zero, i.size, i.bytes)) = some (some (.slice none 0 0), 1, 24) := by kernel_rfl
/-- The law's own block. -/
def LW (w : World) (l : Nat) (a0 a1 a2 a3 a4 a5 k0 k1 k2 k3 : Value) : Prop := Has w l #[a0, a1, a2, a3, a4, a5, k0, k1, k2, k3] 41
section
variable {w : World} {l : Nat} {a0 a1 a2 a3 a4 a5 k0 k1 k2 k3 : Value} {M : Nat → Prop}
theorem LW.keep {S : Nat → Prop} {w' : World} (h : LW w l a0 a1 a2 a3 a4 a5 k0 k1 k2 k3) (ho : Only S w w') (hS : ¬ S l) : LW w' l a0 a1 a2 a3 a4 a5 k0 k1 k2 k3 := Has.keep h ho hS
theorem LW.set6 (h : LW w l a0 a1 a2 a3 a4 a5 k0 k1 k2 k3) (v : Value) : LW (w.setCell ⟨l, 6, none⟩ v) l a0 a1 a2 a3 a4 a5 v k1 k2 k3 := by simpa [LW] using Has.setCell h 6 v
theorem LW.set7 (h : LW w l a0 a1 a2 a3 a4 a5 k0 k1 k2 k3) (v : Value) : LW (w.setCell ⟨l, 7, none⟩ v) l a0 a1 a2 a3 a4 a5 k0 v k2 k3 := by simpa [LW] using Has.setCell h 7 v
theorem LW.set8 (h : LW w l a0 a1 a2 a3 a4 a5 k0 k1 k2 k3) (v : Value) : LW (w.setCell ⟨l, 8, none⟩ v) l a0 a1 a2 a3 a4 a5 k0 k1 v k3 := by simpa [LW] using Has.setCell h 8 v
theorem LW.set9 (h : LW w l a0 a1 a2 a3 a4 a5 k0 k1 k2 k3) (v : Value) : LW (w.setCell ⟨l, 9, none⟩ v) l a0 a1 a2 a3 a4 a5 k0 k1 k2 v := by simpa [LW] using Has.setCell h 9 v
theorem LW.set2 (h : LW w l a0 a1 a2 a3 a4 a5 k0 k1 k2 k3) (v : Value) : LW (w.setCell ⟨l, 2, none⟩ v) l a0 a1 v a3 a4 a5 k0 k1 k2 k3 := by simpa [LW] using Has.setCell h 2 v
theorem LW.set3 (h : LW w l a0 a1 a2 a3 a4 a5 k0 k1 k2 k3) (v : Value) : LW (w.setCell ⟨l, 3, none⟩ v) l a0 a1 a2 v a4 a5 k0 k1 k2 k3 := by simpa [LW] using Has.setCell h 3 v
theorem LW.set4 (h : LW w l a0 a1 a2 a3 a4 a5 k0 k1 k2 k3) (v : Value) : LW (w.setCell ⟨l, 4, none⟩ v) l a0 a1 a2 a3 v a5 k0 k1 k2 k3 := by simpa [LW] using Has.setCell h 4 v
theorem LW.set5 (h : LW w l a0 a1 a2 a3 a4 a5 k0 k1 k2 k3) (v : Value) : LW (w.setCell ⟨l, 5, none⟩ v) l a0 a1 a2 a3 a4 v k0 k1 k2 k3 := by simpa [LW] using Has.setCell h 5 v
end
def stp (i : Nat) (old : Nat → Value) (pat : Nat → Value) (j : Nat) : Value := if j < i then pat j else old j
theorem tab_of (c : Array Value) (n : Nat) (h : c.size = n) : c = tabV n (fun j => c.getD j undef) := by
  subst h
  apply Array.ext
  · simp [tabV]
  · intro i h1 h2
    simp [tabV, h1]
theorem stp_set (n i : Nat) (old pat : Nat → Value) : (tabV n (stp i old pat)).setIfInBounds i (pat i) = tabV n (stp (i + 1) old pat) := by
  rw [tabV_set]
  apply tabV_congr
  intro j hj
  unfold stp
  by_cases e : j = i
  · rw [if_pos e, if_pos (by omega), e]
  · rw [if_neg e]
    by_cases h : j < i
    · rw [if_pos h, if_pos (by omega)]
    · rw [if_neg h, if_neg (by omega)]
/-- One list more is kept. -/
theorem kept_push {wr w4 : World} {e t sz : Nat} {pat : Nat → Value} {xs : List Value} {nv k0 : Value} {o : Obj} (hk : KeptRow wr e k0 xs) (he : e ≠ t) (hxs : ∀ x ∈ xs, Stm wr t sz pat x) (hn : Stm wr t sz pat nv) (hgrow : (wr.alloc o).grownBy w4 k0.ownBlock) : ∀ x ∈ xs ++ [nv], Stm w4 t sz pat x := by
  intro x hx
  have h1 : Stm wr t sz pat x := by
    rcases List.mem_append.1 hx with hx | hx
    · exact hxs x hx
    · simp at hx; rw [hx]; exact hn
  exact h1.keep (own_only hgrow) (fun y hy e' => h1.ne hk he y hy e')
theorem kept_drop {w : World} {e g o n c : Nat} {xs : List Value} (hk : KeptRow w e (.slice (some ⟨g, o, none⟩) n c) xs) (hn : xs.length = 65) : 65 ≤ c ∧ KeptRow w e (.slice (some ⟨g, o + 1, none⟩) 64 (c - 1)) xs.tail ∧ xs.tail.length = 64 := by
  cases xs with
  | nil => simp at hn
  | cons x xr =>
    have hr : xr.length = 64 := by simpa using hn
    have e1 : n = 65 ∧ 65 ≤ c := by
      rcases hk with ⟨h, _⟩ | ⟨g', o', c', cu, h, _, h1, _⟩
      · simp at h
      · rw [hn] at h h1
        simp at h
        omega
    obtain ⟨rfl, hc⟩ := e1
    exact ⟨hc, hk.tail (n := 64) hr.symm, hr⟩
/-- What a list that was kept leaves: with an empty list nothing is kept. -/
structure OwnR (w : World) (l : Nat) (a0 a1 a2 a3 a4 a5 k0 k1 k2 k3 : Value) (M : Nat → Prop) (v : Value) (w' : World) (k0' k1' k2' k3' kk : Value) : Prop where
  lw : LW w' l a0 a1 a2 a3 a4 a5 k0' k1' k2' k3'
  ho : Only (fun y => y = l ∨ v.ownBlock = some y ∨ kk.ownBlock = some y) w w'
set_option maxRecDepth 100000 in
set_option maxHeartbeats 4000000 in
theorem own_any {w : World} {l : Nat} {a0 a1 a2 a3 a4 a5 k0 k1 k2 k3 : Value} {M : Nat → Prop} (hl : LW w l a0 a1 a2 a3 a4 a5 k0 k1 k2 k3) (hK : KL w 49 9 1 patS k0 M) (v : Value) (lst : List Str) (hv : OwnL w v lst) (hvM : ∀ y, v.ownBlock = some y → ¬ M y) (hlM : ¬ M l) :
    Calls Try.prog 44 #[.pointer (some ⟨l, 0, none⟩), v] w fun e w' => e = .returned (.tuple #[]) ∧ ∃ k0', LW w' l a0 a1 a2 a3 a4 a5 k0' k1 k2 k3 ∧ KL w' 49 9 1 patS k0' (Mx M v w w') ∧ Only (fun y => y = l ∨ v.ownBlock = some y ∨ k0.ownBlock = some y) w w' ∧ (∀ y, k0'.ownBlock = some y → k0.ownBlock = some y ∨ w.heap.size ≤ y) := by
  obtain ⟨⟨xs, hkr, hx64, hxs⟩, hko⟩ := hK
  have ll := Has.lt hl
  have hr := hv.row
  rcases hr.2 with ⟨rfl, h0⟩ | ⟨g, cap, cur, rfl, _, hg, hn, hcm, hsz, _⟩
  · obtain ⟨ka, kc, rfl⟩ := hkr.shape
    have c6 := Has.cell hl 6
    have HR := hide (And.intro hl (And.intro (⟨⟨xs, hkr, hx64, fun x hx => ⟨(hxs x hx).1, fun y hy => .inl ((hxs x hx).2 y hy)⟩⟩, fun y hy => .inl (hko y hy)⟩ : KL w 49 9 1 patS (.slice ka xs.length kc) (Mx M (.slice none 0 0) w w)) (Only.refl (fun y => y = l ∨ (Value.slice none 0 0).ownBlock = some y ∨ (Value.slice ka xs.length kc).ownBlock = some y) w)))
    have b1 : decide ((64 : Int) < (xs.length : Int)) = false := decide_eq_false (by omega)
    clear hl hkr hxs hko hv hr hvM
    go_enter Try.func44, Try.ntmps44
    go_wp2_with fail
    go_loopw [4] (fun iv wr => iv = .int .i64 0 ∧ w = wr) (fun _ _ => 0)
    case atStart => exact ⟨rfl, rfl⟩
    case round =>
      obtain ⟨rfl, rfl⟩ := hrel
      go_wp2_with fail
      go_end0
      exact ⟨rfl, _, (unhide HR).1, (unhide HR).2.1, (unhide HR).2.2, fun y hy => .inl hy⟩
  · have hH : Has w g cur 9 := hg
    have hgl := hH.lt
    have hne_l : g ≠ l := Has.ne hH hl (by decide)
    have hgM : ¬ M g := hvM g rfl
    have hsz' : cur.size = cap := by rw [hsz]; omega
    rw [tab_of cur cap hsz'] at hH
    have hst0 : tabV cap (fun j => cur.getD j undef) = tabV cap (stp 0 (fun j => cur.getD j undef) patS) := tabV_congr _ (fun j _ => by unfold stp; rw [if_neg (by omega)])
    rw [hst0] at hH
    generalize (fun j => cur.getD j undef) = old at *
    obtain ⟨i0, hi0, hz0, hz1, hz2⟩ := info_parts Try.infoStrs
    have hcm' : cap ≤ 9223372036854775807 := Nat.le_trans hcm (by unfold maxLen; omega)
    have s0 : (0 : Int) ≤ (cap : Int) := by omega
    have s1 : (cap : Int) ≤ (cap : Int) := by omega
    have HH := hide hH
    have HL := hide hl
    have HK := hide (And.intro hkr (And.intro hxs hko))
    clear hH hl hkr hxs hko hv hr hvM hg hst0 hsz hsz'
    go_enter Try.func44, Try.ntmps44
    go_wp2_with fail
    go_loopw [4] (fun iv wr => ∃ i : Nat, iv = .int .i64 i ∧ i ≤ cap ∧ Has wr g (tabV cap (stp i old patS)) 9 ∧ Only (fun y => y = g) w wr) (fun iv _ => cap - (intOf iv).toNat)
    case atStart => exact ⟨0, rfl, by omega, unhide HH, Only.refl _ _⟩
    case round =>
      clear HH
      obtain ⟨i, rfl, hi, hH, ho⟩ := hrel
      have hgr := hH.lt
      by_cases hil : i < cap
      · have b1 : decide ((i : Int) < (cap : Int)) = true := decide_eq_true (by omega)
        have b2 : (i : Int) < (cap : Int) := by omega
        have c0 := hH.cell i
        rw [tabV_get _ _ _ hil] at c0
        have f0 := hH.free i
        have h1 := hH.setCell i (patS i)
        rw [stp_set] at h1
        have HN := hide (And.intro h1 (ho.trans (donly1 (p := g) i (patS i)) (fun _ _ h => h)))
        generalize stp i old patS i = ov at *
        clear hH ho h1
        go_wp2_with fail
        go_roundw
        case rel => exact ⟨i + 1, by go_num, by omega, unhide HN⟩
        case measure => simp [intOf]; omega
      · have b1 : decide ((i : Int) < (cap : Int)) = false := decide_eq_false (by omega)
        have ei : i = cap := by omega
        subst ei
        have hp : tabV i (stp i old patS) = tabV (i * 1) patS := by
          rw [Nat.mul_one]
          apply tabV_congr
          intro j hj
          unfold stp
          rw [if_pos hj]
        rw [hp] at hH
        obtain ⟨hkr, hxs, hko⟩ := unhide HK
        have nM : ∀ y, M y → y ≠ g := fun y hy e => hgM (e ▸ hy)
        have hkr1 := hkr.keep ho (fun y hy => nM y (hko y hy))
        have hxs1 : ∀ x ∈ xs, Stm wr 9 1 patS x ∧ ∀ y, x.ownBlock = some y → M y := fun x hx => ⟨(hxs x hx).1.keep ho (fun y hy => nM y ((hxs x hx).2 y hy)), (hxs x hx).2⟩
        have hl1 := (unhide HL).keep ho (fun h => hne_l h.symm)
        obtain ⟨ka, kc, rfl⟩ := hkr1.shape
        have ws := ho.size
        have c6 := Has.cell hl1 6
        have ll1 := Has.lt hl1
        by_cases hc0 : 0 < i
        · have d1 : decide ((0 : Int) < (i : Int)) = true := decide_eq_true (by omega)
          have d1n : decide (0 < i) = true := decide_eq_true hc0
          have hnew : Stm wr 9 1 patS (.slice (some ⟨g, 0, none⟩) i i) := ⟨g, i, rfl, hcm', hH⟩
          have KR := hide hkr1
          have XS := hide hxs1
          have L1 := hide hl1
          have HO := hide ho
          have NW := hide hnew
          have KO := hide hko
          have hka : KeptRow (wr.alloc (.cells #[.slice (some ⟨g, 0, none⟩) i i] 49)) 49 (.slice ka xs.length kc) xs := hkr1.keep ((Only.refl (fun _ => False) wr).alloc _) (fun _ _ h => h)
          clear hkr hxs hko hkr1 hxs1 hl1 ho hnew hH hp HK HL nM
          go_wp2_with (at_builtin; refine wpList_append_kept _ rfl _ _ 36 rfl 49 i0 _ 24 Try.underlying36 hi0 hz0 hz1 hz2 rfl _ xs rfl hka ⟨wr.heap.size, 0, none⟩ 1 (.slice (some ⟨g, 0, none⟩) i i) rfl ?c1 ?c2 ?c3 ?c4 ?_)
          try (case c1 => exact news_ok _ _ _ _ rfl)
          case c2 => rfl
          case c3 => unfold maxLen; omega
          case c4 => omega
          intro k4 w4 hk4 hgrow hwhere
          have hst4 := kept_push (unhide KR) (by decide) (fun x hx => (unhide XS x hx).1) (unhide NW) hgrow
          have oG := own_only hgrow
          have hl4 := (unhide L1).keep oG (fun e => (unhide KR).ne (unhide L1) (by decide) _ e rfl)
          have hsz4 : (xs ++ [Value.slice (some ⟨g, 0, none⟩) i i]).length = xs.length + 1 := by simp
          obtain ⟨gg, oo, cc, ek4, hgg4, _⟩ := hk4.at 0 (by rw [hsz4]; omega)
          rw [hsz4] at ek4
          subst ek4
          have s4 := oG.size
          have hM4 : ∀ x ∈ xs ++ [Value.slice (some ⟨g, 0, none⟩) i i], ∀ y, x.ownBlock = some y → M y ∨ (Value.slice (some ⟨g, 0, none⟩) lst.length i).ownBlock = some y := fun x hx y hy => by
            rcases List.mem_append.1 hx with hx | hx
            · exact .inl ((unhide XS x hx).2 y hy)
            · simp at hx; subst hx; exact .inr hy
          have hgg : M gg ∨ w.heap.size ≤ gg := by
            rcases hwhere gg rfl with e | e
            · exact .inl (unhide KO gg e)
            · exact .inr (by omega)
          have hgw : (Value.slice ka xs.length kc).ownBlock = some gg ∨ w.heap.size ≤ gg := by
            rcases hwhere gg rfl with e | e
            · exact .inl e
            · exact .inr (by omega)
          have Hgw := hide hgw
          have hho : Only (fun y => y = l ∨ (Value.slice (some ⟨g, 0, none⟩) lst.length i).ownBlock = some y ∨ (Value.slice ka xs.length kc).ownBlock = some y) w w4 := ((unhide HO).mono (fun y _ e => .inr (.inl (by rw [e]; rfl)))).trans oG (fun y _ e => .inr (.inr e))
          have r6 := Has.cell hl4 6
          have z6 := Has.free hl4 6
          have ll4 := Has.lt hl4
          have nll : gg ≠ l := fun e => hk4.ne hl4 (by decide) gg rfl e
          have nst : ∀ x ∈ xs ++ [Value.slice (some ⟨g, 0, none⟩) i i], ∀ y, x.ownBlock = some y → y ≠ l := fun x hx y hy e => by
            obtain ⟨g2, n2, e2, _, h2⟩ := hst4 x hx
            subst e2
            simp [Value.ownBlock] at hy
            subst hy
            exact Has.ne h2 hl4 (by decide) e
          have HF := hide (fun (kv : Value) (ys : List Value) (hy : KeptRow w4 49 kv ys) (hl64 : ys.length ≤ 64) (hsub : ∀ x ∈ ys, x ∈ xs ++ [Value.slice (some ⟨g, 0, none⟩) i i]) (hkb : ∀ y, kv.ownBlock = some y → y = gg) (W : World) (hW : Only (fun y => y = l) w4 W) => And.intro (⟨⟨ys, hy.keep hW (fun y hy' e => nll ((hkb y hy').symm.trans e)), hl64, fun x hx => ⟨(hst4 x (hsub x hx)).keep hW (fun y hy' e => nst x (hsub x hx) y hy' e), fun y hy' => by
              rcases hM4 x (hsub x hx) y hy' with h | h
              · exact .inl h
              · exact .inr (.inl h)⟩⟩, fun y hy' => by
              have hwz := hW.size
              rw [hkb y hy']
              rcases hgg with h | h
              · exact .inl h
              · exact .inr (.inr ⟨h, by omega⟩)⟩ : KL W 49 9 1 patS kv (Mx M (.slice (some ⟨g, 0, none⟩) lst.length i) w W)) (hho.trans hW (fun y _ e => .inl e)))
          have HL4 := hide hl4
          have HK4 := hide hk4
          by_cases h65 : xs.length + 1 ≤ 64
          · have b9 : decide ((64 : Int) < (xs.length : Int) + 1) = false := decide_eq_false (by omega)
            have HR := hide (And.intro (hl4.set6 (.slice (some ⟨gg, oo, none⟩) (xs.length + 1) cc)) (unhide HF _ _ hk4 (by rw [hsz4]; exact h65) (fun x hx => hx) (fun y hy => by simp [Value.ownBlock] at hy; exact hy.symm) _ (donly1 6 (.slice (some ⟨gg, oo, none⟩) (xs.length + 1) cc))))
            clear hl4 hst4 oG hk4 hgrow hwhere hM4 hgg hgw hho nst HF KR XS L1 HO NW KO hka
            go_wp2_with fail
            go_end0
            exact ⟨rfl, _, (unhide HR).1, (unhide HR).2.1, (unhide HR).2.2, fun y hy => by
              simp [Value.ownBlock] at hy
              subst hy
              exact unhide Hgw⟩
          · have hx65 : xs.length + 1 = 65 := by omega
            obtain ⟨hcc, hkt, htl⟩ := kept_drop hk4 (by rw [hsz4]; exact hx65)
            have hcc1 : ¬ cc = 1 := by omega
            have hKF := unhide HF _ _ hkt (by omega) (fun x hx => List.mem_of_mem_tail hx) (fun y hy => by simp [Value.ownBlock] at hy; exact hy.symm)
            have HKF := hide hKF
            rw [hx65]
            have hl5 := hl4.set6 (.slice (some ⟨gg, oo, none⟩) 65 cc)
            have HL5 := hide hl5
            have o5 := donly1 (w := w4) (p := l) 6 (.slice (some ⟨gg, oo, none⟩) 65 cc)
            clear hl4 hst4 oG hk4 hgrow hwhere hM4 hgg hgw hho nst HF KR XS L1 HO NW KO hka hl5 hKF hkt htl HK4 HL4
            go_upto_region 8 with fail
            generalize w4.setCell ⟨l, 6, none⟩ (.slice (some ⟨gg, oo, none⟩) 65 cc) = W5 at *
            have q6 := Has.cell (unhide HL5) 6
            have zz6 := Has.free (unhide HL5) 6
            have ll5 := Has.lt (unhide HL5)
            have HFN := hide (fun (W : World) (hW : Only (fun _ => False) W5 W) => And.intro (((unhide HL5).keep hW (fun h => h)).set6 (.slice (some ⟨gg, oo + 1, none⟩) 64 (cc - 1))) (unhide HKF _ ((o5.trans hW (fun _ _ h => h.elim)).trans (donly1 (p := l) 6 (.slice (some ⟨gg, oo + 1, none⟩) 64 (cc - 1))) (fun _ _ h => h))))
            have oD := Only.refl (fun _ => False) W5
            clear o5 HL5 HKF r6 z6
            go_region
            all_goals
              go_wp2_with fail
              go_end0
              have HG : ∀ y, (Value.slice (some ⟨gg, oo + 1, none⟩) 64 (cc - 1)).ownBlock = some y → (Value.slice ka xs.length kc).ownBlock = some y ∨ w.heap.size ≤ y := fun y hy => by
                simp [Value.ownBlock] at hy
                subst hy
                exact unhide Hgw
              first
              | exact ⟨rfl, _, (unhide HFN _ oD).1, (unhide HFN _ oD).2.1, (unhide HFN _ oD).2.2, HG⟩
              | exact ⟨rfl, _, (unhide HFN _ oD.drew).1, (unhide HFN _ oD.drew).2.1, (unhide HFN _ oD.drew).2.2, HG⟩
              | exact ⟨rfl, _, (unhide HFN _ (oD.drewO _)).1, (unhide HFN _ (oD.drewO _)).2.1, (unhide HFN _ (oD.drewO _)).2.2, HG⟩
        · have d1 : decide ((0 : Int) < (i : Int)) = false := decide_eq_false (by omega)
          have d1n : decide (0 < i) = false := decide_eq_false hc0
          have b9 : decide ((64 : Int) < (xs.length : Int)) = false := decide_eq_false (by omega)
          have HR := hide (And.intro hl1 (And.intro (⟨⟨xs, hkr1, hx64, fun x hx => ⟨(hxs1 x hx).1, fun y hy => .inl ((hxs1 x hx).2 y hy)⟩⟩, fun y hy => .inl (hko y hy)⟩ : KL wr 49 9 1 patS (.slice ka xs.length kc) (Mx M (.slice (some ⟨g, 0, none⟩) lst.length i) w wr)) (ho.mono (T := fun y => y = l ∨ (Value.slice (some ⟨g, 0, none⟩) lst.length i).ownBlock = some y ∨ (Value.slice ka xs.length kc).ownBlock = some y) (fun y _ e => .inr (.inl (by rw [e]; rfl))))))
          clear hkr hxs hko hkr1 hxs1 hl1 ho hH hp HK HL nM
          go_wp2_with fail
          go_end0
          exact ⟨rfl, _, (unhide HR).1, (unhide HR).2.1, (unhide HR).2.2, fun y hy => .inl hy⟩
end Go.Proofs.Qxb6500416a
