/-
  OWN WORK. THE LAW OF DIFF: OwnFiles, OwnChanges (laid by tools/gen_dl5.py after own_any).
-/
import Derived.Test.Qxb6500416aDL4
namespace Go.Proofs.Qxb6500416a
open Go.RowKit Go.PlainAid
set_option linter.unusedSimpArgs false
set_option linter.unusedVariables false

theorem Try.infoFiles : (Try.prog.info? 34).map (fun i => (i.zero, i.size, i.bytes)) = some (some (.slice none 0 0), 1, 24) := by kernel_rfl
theorem Try.infoChgs : (Try.prog.info? 63).map (fun i => (i.zero, i.size, i.bytes)) = some (some (.slice none 0 0), 1, 24) := by kernel_rfl
theorem Try.infoHunks : (Try.prog.info? 33).map (fun i => (i.zero, i.size, i.bytes)) = some (some (.slice none 0 0), 1, 24) := by kernel_rfl
theorem Has.set3 {w : World} {g n i t : Nat} {old pat : Nat → Value} (h : Has w g (tabV n (stp (i * 3) old pat)) t) (v0 v1 v2 : Value) (e0 : v0 = pat (i * 3)) (e1 : v1 = pat (i * 3 + 1)) (e2 : v2 = pat (i * 3 + 2)) :
    Has (((w.setCell ⟨g, i * 3, none⟩ v0).setCell ⟨g, i * 3 + 1, none⟩ v1).setCell ⟨g, i * 3 + 2, none⟩ v2) g (tabV n (stp ((i + 1) * 3) old pat)) t := by
  subst e0
  subst e1
  subst e2
  have h1 := h.setCell (i * 3) (pat (i * 3))
  rw [stp_set] at h1
  have h2 := h1.setCell (i * 3 + 1) (pat (i * 3 + 1))
  rw [stp_set] at h2
  have h3 := h2.setCell (i * 3 + 2) (pat (i * 3 + 2))
  rw [stp_set] at h3
  have e : (i + 1) * 3 = i * 3 + 2 + 1 := by omega
  rw [e]
  exact h3
set_option maxRecDepth 100000 in
set_option maxHeartbeats 4000000 in
theorem ownFiles_any {w : World} {l : Nat} {a0 a1 a2 a3 a4 a5 k0 k1 k2 k3 : Value} {M : Nat → Prop} (hl : LW w l a0 a1 a2 a3 a4 a5 k0 k1 k2 k3) (hK : KL w 34 60 3 patF k2 M) (v : Value) (lst : List Fl) (hv : OwnF w v lst) (hvM : ∀ y, v.ownBlock = some y → ¬ M y) (hlM : ¬ M l) :
    Calls Try.prog 35 #[.pointer (some ⟨l, 0, none⟩), v] w fun e w' => e = .returned (.tuple #[]) ∧ ∃ k0', LW w' l a0 a1 a2 a3 a4 a5 k0 k1 k0' k3 ∧ KL w' 34 60 3 patF k0' (Mx M v w w') ∧ Only (fun y => y = l ∨ v.ownBlock = some y ∨ k2.ownBlock = some y) w w' ∧ (∀ y, k0'.ownBlock = some y → k2.ownBlock = some y ∨ w.heap.size ≤ y) := by
  obtain ⟨⟨xs, hkr, hx64, hxs⟩, hko⟩ := hK
  have ll := Has.lt hl
  have hr : w.ownsRow 0 60 3 v lst.length _ := hv
  rcases hr.2 with ⟨rfl, h0⟩ | ⟨g, cap, cur, rfl, _, hg, hn, hcm, hsz, _⟩
  · obtain ⟨ka, kc, rfl⟩ := hkr.shape
    have c6 := Has.cell hl 8
    have HR := hide (And.intro hl (And.intro (⟨⟨xs, hkr, hx64, fun x hx => ⟨(hxs x hx).1, fun y hy => .inl ((hxs x hx).2 y hy)⟩⟩, fun y hy => .inl (hko y hy)⟩ : KL w 34 60 3 patF (.slice ka xs.length kc) (Mx M (.slice none 0 0) w w)) (Only.refl (fun y => y = l ∨ (Value.slice none 0 0).ownBlock = some y ∨ (Value.slice ka xs.length kc).ownBlock = some y) w)))
    have b1 : decide ((64 : Int) < (xs.length : Int)) = false := decide_eq_false (by omega)
    clear hl hkr hxs hko hv hr hvM
    go_enter Try.func35, Try.ntmps35
    go_wp2_with fail
    go_loopw [4] (fun iv wr => iv = .int .i64 0 ∧ w = wr) (fun _ _ => 0)
    case atStart => exact ⟨rfl, rfl⟩
    case round =>
      obtain ⟨rfl, rfl⟩ := hrel
      go_wp2_with fail
      go_end0
      exact ⟨rfl, _, (unhide HR).1, (unhide HR).2.1, (unhide HR).2.2, fun y hy => .inl hy⟩
  · have hH : Has w g cur 60 := hg
    have hgl := hH.lt
    have hne_l : g ≠ l := Has.ne hH hl (by decide)
    have hgM : ¬ M g := hvM g rfl
    have hsz' : cur.size = cap * 3 := hsz
    rw [tab_of cur (cap * 3) hsz'] at hH
    have hst0 : tabV (cap * 3) (fun j => cur.getD j undef) = tabV (cap * 3) (stp 0 (fun j => cur.getD j undef) patF) := tabV_congr _ (fun j _ => by unfold stp; rw [if_neg (by omega)])
    rw [hst0] at hH
    generalize (fun j => cur.getD j undef) = old at *
    obtain ⟨i0, hi0, hz0, hz1, hz2⟩ := info_parts Try.infoFiles
    have hcm' : cap ≤ 9223372036854775807 := Nat.le_trans hcm (by unfold maxLen; omega)
    have s0 : (0 : Int) ≤ (cap : Int) := by omega
    have s1 : (cap : Int) ≤ (cap : Int) := by omega
    have HH := hide hH
    have HL := hide hl
    have HK := hide (And.intro hkr (And.intro hxs hko))
    clear hH hl hkr hxs hko hv hr hvM hg hst0 hsz hsz'
    go_enter Try.func35, Try.ntmps35
    go_wp2_with fail
    go_loopw [4] (fun iv wr => ∃ i : Nat, iv = .int .i64 i ∧ i ≤ cap ∧ Has wr g (tabV (cap * 3) (stp (i * 3) old patF)) 60 ∧ Only (fun y => y = g) w wr) (fun iv _ => cap - (intOf iv).toNat)
    case atStart => exact ⟨0, rfl, by omega, by rw [Nat.zero_mul]; exact unhide HH, Only.refl _ _⟩
    case round =>
      clear HH
      obtain ⟨i, rfl, hi, hH, ho⟩ := hrel
      have hgr := hH.lt
      by_cases hil : i < cap
      · have b1 : decide ((i : Int) < (cap : Int)) = true := decide_eq_true (by omega)
        have b2 : (i : Int) < (cap : Int) := by omega
        have c0 := hH.cell (i * 3)
        rw [tabV_get _ _ _ (by omega)] at c0
        have c1 := hH.cell (i * 3 + 1)
        rw [tabV_get _ _ _ (by omega)] at c1
        have c2 := hH.cell (i * 3 + 2)
        rw [tabV_get _ _ _ (by omega)] at c2
        have f0 := hH.free (i * 3)
        have f1 := hH.free (i * 3 + 1)
        have f2 := hH.free (i * 3 + 2)
        have h1 := hH.set3 (.string ⟨#[0, 115, 116, 97, 109, 112]⟩) (.string ⟨#[0, 115, 116, 97, 109, 112]⟩) (.int .i64 (-1)) (by unfold patF; rw [if_neg (by omega)] <;> rfl) (by unfold patF; rw [if_neg (by omega)] <;> rfl) (by unfold patF; rw [if_pos (by omega)] <;> rfl)
        have HN := hide (And.intro h1 (((ho.trans (donly1 (p := g) (i * 3) (.string ⟨#[0, 115, 116, 97, 109, 112]⟩)) (fun _ _ h => h)).trans (donly1 (p := g) (i * 3 + 1) (.string ⟨#[0, 115, 116, 97, 109, 112]⟩)) (fun _ _ h => h)).trans (donly1 (p := g) (i * 3 + 2) (.int .i64 (-1))) (fun _ _ h => h)))
        generalize stp (i * 3) old patF (i * 3) = ov0 at *
        generalize stp (i * 3) old patF (i * 3 + 1) = ov1 at *
        generalize stp (i * 3) old patF (i * 3 + 2) = ov2 at *
        clear hH ho h1
        go_wp2_with fail
        go_roundw
        case rel => exact ⟨i + 1, by go_num, by omega, unhide HN⟩
        case measure => simp [intOf]; omega
      · have b1 : decide ((i : Int) < (cap : Int)) = false := decide_eq_false (by omega)
        have ei : i = cap := by omega
        subst ei
        have hp : tabV (i * 3) (stp (i * 3) old patF) = tabV (i * 3) patF := by
          apply tabV_congr
          intro j hj
          unfold stp
          rw [if_pos hj]
        rw [hp] at hH
        obtain ⟨hkr, hxs, hko⟩ := unhide HK
        have nM : ∀ y, M y → y ≠ g := fun y hy e => hgM (e ▸ hy)
        have hkr1 := hkr.keep ho (fun y hy => nM y (hko y hy))
        have hxs1 : ∀ x ∈ xs, Stm wr 60 3 patF x ∧ ∀ y, x.ownBlock = some y → M y := fun x hx => ⟨(hxs x hx).1.keep ho (fun y hy => nM y ((hxs x hx).2 y hy)), (hxs x hx).2⟩
        have hl1 := (unhide HL).keep ho (fun h => hne_l h.symm)
        obtain ⟨ka, kc, rfl⟩ := hkr1.shape
        have ws := ho.size
        have c6 := Has.cell hl1 8
        have ll1 := Has.lt hl1
        by_cases hc0 : 0 < i
        · have d1 : decide ((0 : Int) < (i : Int)) = true := decide_eq_true (by omega)
          have d1n : decide (0 < i) = true := decide_eq_true hc0
          have hnew : Stm wr 60 3 patF (.slice (some ⟨g, 0, none⟩) i i) := ⟨g, i, rfl, hcm', hH⟩
          have KR := hide hkr1
          have XS := hide hxs1
          have L1 := hide hl1
          have HO := hide ho
          have NW := hide hnew
          have KO := hide hko
          have hka : KeptRow (wr.alloc (.cells #[.slice (some ⟨g, 0, none⟩) i i] 34)) 34 (.slice ka xs.length kc) xs := hkr1.keep ((Only.refl (fun _ => False) wr).alloc _) (fun _ _ h => h)
          clear hkr hxs hko hkr1 hxs1 hl1 ho hnew hH hp HK HL nM
          go_wp2_with (at_builtin; refine wpList_append_kept _ rfl _ _ 38 rfl 34 i0 _ 24 Try.underlying38 hi0 hz0 hz1 hz2 rfl _ xs rfl hka ⟨wr.heap.size, 0, none⟩ 1 (.slice (some ⟨g, 0, none⟩) i i) rfl ?c1 ?c2 ?c3 ?c4 ?_)
          try (case c1 => exact news_ok _ _ _ _ rfl)
          case c2 => rfl
          case c3 => unfold maxLen; omega
          case c4 => omega
          intro k4 w4 hk4 hgrow hwhere
          have hst4 := kept_push (unhide KR) (by decide) (fun x hx => (unhide XS x hx).1) (unhide NW) hgrow
          have oG := own_only hgrow
          have hl4 := (unhide L1).keep oG (fun e => (unhide KR).ne (unhide L1) (by decide) _ e rfl)
          have hsz4 : (xs ++ [Value.slice (some ⟨g, 0, none⟩) i i]).length = xs.length + 1 := by simp
          obtain ⟨gg, oo, cc, ek4, hgg4, _⟩ := hk4.at 0 (by rw [hsz4]; omega)
          rw [hsz4] at ek4
          subst ek4
          have s4 := oG.size
          have hM4 : ∀ x ∈ xs ++ [Value.slice (some ⟨g, 0, none⟩) i i], ∀ y, x.ownBlock = some y → M y ∨ (Value.slice (some ⟨g, 0, none⟩) lst.length i).ownBlock = some y := fun x hx y hy => by
            rcases List.mem_append.1 hx with hx | hx
            · exact .inl ((unhide XS x hx).2 y hy)
            · simp at hx; subst hx; exact .inr hy
          have hgg : M gg ∨ w.heap.size ≤ gg := by
            rcases hwhere gg rfl with e | e
            · exact .inl (unhide KO gg e)
            · exact .inr (by omega)
          have hgw : (Value.slice ka xs.length kc).ownBlock = some gg ∨ w.heap.size ≤ gg := by
            rcases hwhere gg rfl with e | e
            · exact .inl e
            · exact .inr (by omega)
          have Hgw := hide hgw
          have hho : Only (fun y => y = l ∨ (Value.slice (some ⟨g, 0, none⟩) lst.length i).ownBlock = some y ∨ (Value.slice ka xs.length kc).ownBlock = some y) w w4 := ((unhide HO).mono (fun y _ e => .inr (.inl (by rw [e]; rfl)))).trans oG (fun y _ e => .inr (.inr e))
          have r6 := Has.cell hl4 8
          have z6 := Has.free hl4 8
          have ll4 := Has.lt hl4
          have nll : gg ≠ l := fun e => hk4.ne hl4 (by decide) gg rfl e
          have nst : ∀ x ∈ xs ++ [Value.slice (some ⟨g, 0, none⟩) i i], ∀ y, x.ownBlock = some y → y ≠ l := fun x hx y hy e => by
            obtain ⟨g2, n2, e2, _, h2⟩ := hst4 x hx
            subst e2
            simp [Value.ownBlock] at hy
            subst hy
            exact Has.ne h2 hl4 (by decide) e
          have HF := hide (fun (kv : Value) (ys : List Value) (hy : KeptRow w4 34 kv ys) (hl64 : ys.length ≤ 64) (hsub : ∀ x ∈ ys, x ∈ xs ++ [Value.slice (some ⟨g, 0, none⟩) i i]) (hkb : ∀ y, kv.ownBlock = some y → y = gg) (W : World) (hW : Only (fun y => y = l) w4 W) => And.intro (⟨⟨ys, hy.keep hW (fun y hy' e => nll ((hkb y hy').symm.trans e)), hl64, fun x hx => ⟨(hst4 x (hsub x hx)).keep hW (fun y hy' e => nst x (hsub x hx) y hy' e), fun y hy' => by
              rcases hM4 x (hsub x hx) y hy' with h | h
              · exact .inl h
              · exact .inr (.inl h)⟩⟩, fun y hy' => by
              have hwz := hW.size
              rw [hkb y hy']
              rcases hgg with h | h
              · exact .inl h
              · exact .inr (.inr ⟨h, by omega⟩)⟩ : KL W 34 60 3 patF kv (Mx M (.slice (some ⟨g, 0, none⟩) lst.length i) w W)) (hho.trans hW (fun y _ e => .inl e)))
          have HL4 := hide hl4
          have HK4 := hide hk4
          by_cases h65 : xs.length + 1 ≤ 64
          · have b9 : decide ((64 : Int) < (xs.length : Int) + 1) = false := decide_eq_false (by omega)
            have HR := hide (And.intro (hl4.set8 (.slice (some ⟨gg, oo, none⟩) (xs.length + 1) cc)) (unhide HF _ _ hk4 (by rw [hsz4]; exact h65) (fun x hx => hx) (fun y hy => by simp [Value.ownBlock] at hy; exact hy.symm) _ (donly1 8 (.slice (some ⟨gg, oo, none⟩) (xs.length + 1) cc))))
            clear hl4 hst4 oG hk4 hgrow hwhere hM4 hgg hgw hho nst HF KR XS L1 HO NW KO hka
            go_wp2_with fail
            go_end0
            exact ⟨rfl, _, (unhide HR).1, (unhide HR).2.1, (unhide HR).2.2, fun y hy => by
              simp [Value.ownBlock] at hy
              subst hy
              exact unhide Hgw⟩
          · have hx65 : xs.length + 1 = 65 := by omega
            obtain ⟨hcc, hkt, htl⟩ := kept_drop hk4 (by rw [hsz4]; exact hx65)
            have hcc1 : ¬ cc = 1 := by omega
            have hKF := unhide HF _ _ hkt (by omega) (fun x hx => List.mem_of_mem_tail hx) (fun y hy => by simp [Value.ownBlock] at hy; exact hy.symm)
            have HKF := hide hKF
            rw [hx65]
            have hl5 := hl4.set8 (.slice (some ⟨gg, oo, none⟩) 65 cc)
            have HL5 := hide hl5
            have o5 := donly1 (w := w4) (p := l) 8 (.slice (some ⟨gg, oo, none⟩) 65 cc)
            clear hl4 hst4 oG hk4 hgrow hwhere hM4 hgg hgw hho nst HF KR XS L1 HO NW KO hka hl5 hKF hkt htl HK4 HL4
            go_upto_region 8 with fail
            generalize w4.setCell ⟨l, 8, none⟩ (.slice (some ⟨gg, oo, none⟩) 65 cc) = W5 at *
            have q6 := Has.cell (unhide HL5) 8
            have zz6 := Has.free (unhide HL5) 8
            have ll5 := Has.lt (unhide HL5)
            have HFN := hide (fun (W : World) (hW : Only (fun _ => False) W5 W) => And.intro (((unhide HL5).keep hW (fun h => h)).set8 (.slice (some ⟨gg, oo + 1, none⟩) 64 (cc - 1))) (unhide HKF _ ((o5.trans hW (fun _ _ h => h.elim)).trans (donly1 (p := l) 8 (.slice (some ⟨gg, oo + 1, none⟩) 64 (cc - 1))) (fun _ _ h => h))))
            have oD := Only.refl (fun _ => False) W5
            clear o5 HL5 HKF r6 z6
            go_region
            all_goals
              go_wp2_with fail
              go_end0
              have HG : ∀ y, (Value.slice (some ⟨gg, oo + 1, none⟩) 64 (cc - 1)).ownBlock = some y → (Value.slice ka xs.length kc).ownBlock = some y ∨ w.heap.size ≤ y := fun y hy => by
                simp [Value.ownBlock] at hy
                subst hy
                exact unhide Hgw
              first
              | exact ⟨rfl, _, (unhide HFN _ oD).1, (unhide HFN _ oD).2.1, (unhide HFN _ oD).2.2, HG⟩
              | exact ⟨rfl, _, (unhide HFN _ oD.drew).1, (unhide HFN _ oD.drew).2.1, (unhide HFN _ oD.drew).2.2, HG⟩
              | exact ⟨rfl, _, (unhide HFN _ (oD.drewO _)).1, (unhide HFN _ (oD.drewO _)).2.1, (unhide HFN _ (oD.drewO _)).2.2, HG⟩
        · have d1 : decide ((0 : Int) < (i : Int)) = false := decide_eq_false (by omega)
          have d1n : decide (0 < i) = false := decide_eq_false hc0
          have b9 : decide ((64 : Int) < (xs.length : Int)) = false := decide_eq_false (by omega)
          have HR := hide (And.intro hl1 (And.intro (⟨⟨xs, hkr1, hx64, fun x hx => ⟨(hxs1 x hx).1, fun y hy => .inl ((hxs1 x hx).2 y hy)⟩⟩, fun y hy => .inl (hko y hy)⟩ : KL wr 34 60 3 patF (.slice ka xs.length kc) (Mx M (.slice (some ⟨g, 0, none⟩) lst.length i) w wr)) (ho.mono (T := fun y => y = l ∨ (Value.slice (some ⟨g, 0, none⟩) lst.length i).ownBlock = some y ∨ (Value.slice ka xs.length kc).ownBlock = some y) (fun y _ e => .inr (.inl (by rw [e]; rfl))))))
          clear hkr hxs hko hkr1 hxs1 hl1 ho hH hp HK HL nM
          go_wp2_with fail
          go_end0
          exact ⟨rfl, _, (unhide HR).1, (unhide HR).2.1, (unhide HR).2.2, fun y hy => .inl hy⟩
set_option maxRecDepth 100000 in
set_option maxHeartbeats 4000000 in
theorem ownChanges_any {w : World} {l : Nat} {a0 a1 a2 a3 a4 a5 k0 k1 k2 k3 : Value} {M : Nat → Prop} (hl : LW w l a0 a1 a2 a3 a4 a5 k0 k1 k2 k3) (hK : KL w 63 65 3 patC k3 M) (v : Value) (lst : List Chg) (hv : OwnC w v lst) (hvM : ∀ y, v.ownBlock = some y → ¬ M y) (hlM : ¬ M l) :
    Calls Try.prog 36 #[.pointer (some ⟨l, 0, none⟩), v] w fun e w' => e = .returned (.tuple #[]) ∧ ∃ k0', LW w' l a0 a1 a2 a3 a4 a5 k0 k1 k2 k0' ∧ KL w' 63 65 3 patC k0' (Mx M v w w') ∧ Only (fun y => y = l ∨ v.ownBlock = some y ∨ k3.ownBlock = some y) w w' ∧ (∀ y, k0'.ownBlock = some y → k3.ownBlock = some y ∨ w.heap.size ≤ y) := by
  obtain ⟨⟨xs, hkr, hx64, hxs⟩, hko⟩ := hK
  have ll := Has.lt hl
  have hr : w.ownsRow 0 65 3 v lst.length _ := hv
  rcases hr.2 with ⟨rfl, h0⟩ | ⟨g, cap, cur, rfl, _, hg, hn, hcm, hsz, _⟩
  · obtain ⟨ka, kc, rfl⟩ := hkr.shape
    have c6 := Has.cell hl 9
    have HR := hide (And.intro hl (And.intro (⟨⟨xs, hkr, hx64, fun x hx => ⟨(hxs x hx).1, fun y hy => .inl ((hxs x hx).2 y hy)⟩⟩, fun y hy => .inl (hko y hy)⟩ : KL w 63 65 3 patC (.slice ka xs.length kc) (Mx M (.slice none 0 0) w w)) (Only.refl (fun y => y = l ∨ (Value.slice none 0 0).ownBlock = some y ∨ (Value.slice ka xs.length kc).ownBlock = some y) w)))
    have b1 : decide ((64 : Int) < (xs.length : Int)) = false := decide_eq_false (by omega)
    clear hl hkr hxs hko hv hr hvM
    go_enter Try.func36, Try.ntmps36
    go_wp2_with fail
    go_loopw [4] (fun iv wr => iv = .int .i64 0 ∧ w = wr) (fun _ _ => 0)
    case atStart => exact ⟨rfl, rfl⟩
    case round =>
      obtain ⟨rfl, rfl⟩ := hrel
      go_wp2_with fail
      go_end0
      exact ⟨rfl, _, (unhide HR).1, (unhide HR).2.1, (unhide HR).2.2, fun y hy => .inl hy⟩
  · have hH : Has w g cur 65 := hg
    have hgl := hH.lt
    have hne_l : g ≠ l := Has.ne hH hl (by decide)
    have hgM : ¬ M g := hvM g rfl
    have hsz' : cur.size = cap * 3 := hsz
    rw [tab_of cur (cap * 3) hsz'] at hH
    have hst0 : tabV (cap * 3) (fun j => cur.getD j undef) = tabV (cap * 3) (stp 0 (fun j => cur.getD j undef) patC) := tabV_congr _ (fun j _ => by unfold stp; rw [if_neg (by omega)])
    rw [hst0] at hH
    generalize (fun j => cur.getD j undef) = old at *
    obtain ⟨i0, hi0, hz0, hz1, hz2⟩ := info_parts Try.infoChgs
    have hcm' : cap ≤ 9223372036854775807 := Nat.le_trans hcm (by unfold maxLen; omega)
    have s0 : (0 : Int) ≤ (cap : Int) := by omega
    have s1 : (cap : Int) ≤ (cap : Int) := by omega
    have HH := hide hH
    have HL := hide hl
    have HK := hide (And.intro hkr (And.intro hxs hko))
    clear hH hl hkr hxs hko hv hr hvM hg hst0 hsz hsz'
    go_enter Try.func36, Try.ntmps36
    go_wp2_with fail
    go_loopw [4] (fun iv wr => ∃ i : Nat, iv = .int .i64 i ∧ i ≤ cap ∧ Has wr g (tabV (cap * 3) (stp (i * 3) old patC)) 65 ∧ Only (fun y => y = g) w wr) (fun iv _ => cap - (intOf iv).toNat)
    case atStart => exact ⟨0, rfl, by omega, by rw [Nat.zero_mul]; exact unhide HH, Only.refl _ _⟩
    case round =>
      clear HH
      obtain ⟨i, rfl, hi, hH, ho⟩ := hrel
      have hgr := hH.lt
      by_cases hil : i < cap
      · have b1 : decide ((i : Int) < (cap : Int)) = true := decide_eq_true (by omega)
        have b2 : (i : Int) < (cap : Int) := by omega
        have c0 := hH.cell (i * 3)
        rw [tabV_get _ _ _ (by omega)] at c0
        have c1 := hH.cell (i * 3 + 1)
        rw [tabV_get _ _ _ (by omega)] at c1
        have c2 := hH.cell (i * 3 + 2)
        rw [tabV_get _ _ _ (by omega)] at c2
        have f0 := hH.free (i * 3)
        have f1 := hH.free (i * 3 + 1)
        have f2 := hH.free (i * 3 + 2)
        have h1 := hH.set3 (.string ⟨#[0, 115, 116, 97, 109, 112]⟩) (.int .i64 (-1)) (.int .i64 (-1)) (by unfold patC; rw [if_pos (by omega)] <;> rfl) (by unfold patC; rw [if_neg (by omega)] <;> rfl) (by unfold patC; rw [if_neg (by omega)] <;> rfl)
        have HN := hide (And.intro h1 (((ho.trans (donly1 (p := g) (i * 3) (.string ⟨#[0, 115, 116, 97, 109, 112]⟩)) (fun _ _ h => h)).trans (donly1 (p := g) (i * 3 + 1) (.int .i64 (-1))) (fun _ _ h => h)).trans (donly1 (p := g) (i * 3 + 2) (.int .i64 (-1))) (fun _ _ h => h)))
        generalize stp (i * 3) old patC (i * 3) = ov0 at *
        generalize stp (i * 3) old patC (i * 3 + 1) = ov1 at *
        generalize stp (i * 3) old patC (i * 3 + 2) = ov2 at *
        clear hH ho h1
        go_wp2_with fail
        go_roundw
        case rel => exact ⟨i + 1, by go_num, by omega, unhide HN⟩
        case measure => simp [intOf]; omega
      · have b1 : decide ((i : Int) < (cap : Int)) = false := decide_eq_false (by omega)
        have ei : i = cap := by omega
        subst ei
        have hp : tabV (i * 3) (stp (i * 3) old patC) = tabV (i * 3) patC := by
          apply tabV_congr
          intro j hj
          unfold stp
          rw [if_pos hj]
        rw [hp] at hH
        obtain ⟨hkr, hxs, hko⟩ := unhide HK
        have nM : ∀ y, M y → y ≠ g := fun y hy e => hgM (e ▸ hy)
        have hkr1 := hkr.keep ho (fun y hy => nM y (hko y hy))
        have hxs1 : ∀ x ∈ xs, Stm wr 65 3 patC x ∧ ∀ y, x.ownBlock = some y → M y := fun x hx => ⟨(hxs x hx).1.keep ho (fun y hy => nM y ((hxs x hx).2 y hy)), (hxs x hx).2⟩
        have hl1 := (unhide HL).keep ho (fun h => hne_l h.symm)
        obtain ⟨ka, kc, rfl⟩ := hkr1.shape
        have ws := ho.size
        have c6 := Has.cell hl1 9
        have ll1 := Has.lt hl1
        by_cases hc0 : 0 < i
        · have d1 : decide ((0 : Int) < (i : Int)) = true := decide_eq_true (by omega)
          have d1n : decide (0 < i) = true := decide_eq_true hc0
          have hnew : Stm wr 65 3 patC (.slice (some ⟨g, 0, none⟩) i i) := ⟨g, i, rfl, hcm', hH⟩
          have KR := hide hkr1
          have XS := hide hxs1
          have L1 := hide hl1
          have HO := hide ho
          have NW := hide hnew
          have KO := hide hko
          have hka : KeptRow (wr.alloc (.cells #[.slice (some ⟨g, 0, none⟩) i i] 63)) 63 (.slice ka xs.length kc) xs := hkr1.keep ((Only.refl (fun _ => False) wr).alloc _) (fun _ _ h => h)
          clear hkr hxs hko hkr1 hxs1 hl1 ho hnew hH hp HK HL nM
          go_wp2_with (at_builtin; refine wpList_append_kept _ rfl _ _ 39 rfl 63 i0 _ 24 Try.underlying39 hi0 hz0 hz1 hz2 rfl _ xs rfl hka ⟨wr.heap.size, 0, none⟩ 1 (.slice (some ⟨g, 0, none⟩) i i) rfl ?c1 ?c2 ?c3 ?c4 ?_)
          try (case c1 => exact news_ok _ _ _ _ rfl)
          case c2 => rfl
          case c3 => unfold maxLen; omega
          case c4 => omega
          intro k4 w4 hk4 hgrow hwhere
          have hst4 := kept_push (unhide KR) (by decide) (fun x hx => (unhide XS x hx).1) (unhide NW) hgrow
          have oG := own_only hgrow
          have hl4 := (unhide L1).keep oG (fun e => (unhide KR).ne (unhide L1) (by decide) _ e rfl)
          have hsz4 : (xs ++ [Value.slice (some ⟨g, 0, none⟩) i i]).length = xs.length + 1 := by simp
          obtain ⟨gg, oo, cc, ek4, hgg4, _⟩ := hk4.at 0 (by rw [hsz4]; omega)
          rw [hsz4] at ek4
          subst ek4
          have s4 := oG.size
          have hM4 : ∀ x ∈ xs ++ [Value.slice (some ⟨g, 0, none⟩) i i], ∀ y, x.ownBlock = some y → M y ∨ (Value.slice (some ⟨g, 0, none⟩) lst.length i).ownBlock = some y := fun x hx y hy => by
            rcases List.mem_append.1 hx with hx | hx
            · exact .inl ((unhide XS x hx).2 y hy)
            · simp at hx; subst hx; exact .inr hy
          have hgg : M gg ∨ w.heap.size ≤ gg := by
            rcases hwhere gg rfl with e | e
            · exact .inl (unhide KO gg e)
            · exact .inr (by omega)
          have hgw : (Value.slice ka xs.length kc).ownBlock = some gg ∨ w.heap.size ≤ gg := by
            rcases hwhere gg rfl with e | e
            · exact .inl e
            · exact .inr (by omega)
          have Hgw := hide hgw
          have hho : Only (fun y => y = l ∨ (Value.slice (some ⟨g, 0, none⟩) lst.length i).ownBlock = some y ∨ (Value.slice ka xs.length kc).ownBlock = some y) w w4 := ((unhide HO).mono (fun y _ e => .inr (.inl (by rw [e]; rfl)))).trans oG (fun y _ e => .inr (.inr e))
          have r6 := Has.cell hl4 9
          have z6 := Has.free hl4 9
          have ll4 := Has.lt hl4
          have nll : gg ≠ l := fun e => hk4.ne hl4 (by decide) gg rfl e
          have nst : ∀ x ∈ xs ++ [Value.slice (some ⟨g, 0, none⟩) i i], ∀ y, x.ownBlock = some y → y ≠ l := fun x hx y hy e => by
            obtain ⟨g2, n2, e2, _, h2⟩ := hst4 x hx
            subst e2
            simp [Value.ownBlock] at hy
            subst hy
            exact Has.ne h2 hl4 (by decide) e
          have HF := hide (fun (kv : Value) (ys : List Value) (hy : KeptRow w4 63 kv ys) (hl64 : ys.length ≤ 64) (hsub : ∀ x ∈ ys, x ∈ xs ++ [Value.slice (some ⟨g, 0, none⟩) i i]) (hkb : ∀ y, kv.ownBlock = some y → y = gg) (W : World) (hW : Only (fun y => y = l) w4 W) => And.intro (⟨⟨ys, hy.keep hW (fun y hy' e => nll ((hkb y hy').symm.trans e)), hl64, fun x hx => ⟨(hst4 x (hsub x hx)).keep hW (fun y hy' e => nst x (hsub x hx) y hy' e), fun y hy' => by
              rcases hM4 x (hsub x hx) y hy' with h | h
              · exact .inl h
              · exact .inr (.inl h)⟩⟩, fun y hy' => by
              have hwz := hW.size
              rw [hkb y hy']
              rcases hgg with h | h
              · exact .inl h
              · exact .inr (.inr ⟨h, by omega⟩)⟩ : KL W 63 65 3 patC kv (Mx M (.slice (some ⟨g, 0, none⟩) lst.length i) w W)) (hho.trans hW (fun y _ e => .inl e)))
          have HL4 := hide hl4
          have HK4 := hide hk4
          by_cases h65 : xs.length + 1 ≤ 64
          · have b9 : decide ((64 : Int) < (xs.length : Int) + 1) = false := decide_eq_false (by omega)
            have HR := hide (And.intro (hl4.set9 (.slice (some ⟨gg, oo, none⟩) (xs.length + 1) cc)) (unhide HF _ _ hk4 (by rw [hsz4]; exact h65) (fun x hx => hx) (fun y hy => by simp [Value.ownBlock] at hy; exact hy.symm) _ (donly1 9 (.slice (some ⟨gg, oo, none⟩) (xs.length + 1) cc))))
            clear hl4 hst4 oG hk4 hgrow hwhere hM4 hgg hgw hho nst HF KR XS L1 HO NW KO hka
            go_wp2_with fail
            go_end0
            exact ⟨rfl, _, (unhide HR).1, (unhide HR).2.1, (unhide HR).2.2, fun y hy => by
              simp [Value.ownBlock] at hy
              subst hy
              exact unhide Hgw⟩
          · have hx65 : xs.length + 1 = 65 := by omega
            obtain ⟨hcc, hkt, htl⟩ := kept_drop hk4 (by rw [hsz4]; exact hx65)
            have hcc1 : ¬ cc = 1 := by omega
            have hKF := unhide HF _ _ hkt (by omega) (fun x hx => List.mem_of_mem_tail hx) (fun y hy => by simp [Value.ownBlock] at hy; exact hy.symm)
            have HKF := hide hKF
            rw [hx65]
            have hl5 := hl4.set9 (.slice (some ⟨gg, oo, none⟩) 65 cc)
            have HL5 := hide hl5
            have o5 := donly1 (w := w4) (p := l) 9 (.slice (some ⟨gg, oo, none⟩) 65 cc)
            clear hl4 hst4 oG hk4 hgrow hwhere hM4 hgg hgw hho nst HF KR XS L1 HO NW KO hka hl5 hKF hkt htl HK4 HL4
            go_upto_region 8 with fail
            generalize w4.setCell ⟨l, 9, none⟩ (.slice (some ⟨gg, oo, none⟩) 65 cc) = W5 at *
            have q6 := Has.cell (unhide HL5) 9
            have zz6 := Has.free (unhide HL5) 9
            have ll5 := Has.lt (unhide HL5)
            have HFN := hide (fun (W : World) (hW : Only (fun _ => False) W5 W) => And.intro (((unhide HL5).keep hW (fun h => h)).set9 (.slice (some ⟨gg, oo + 1, none⟩) 64 (cc - 1))) (unhide HKF _ ((o5.trans hW (fun _ _ h => h.elim)).trans (donly1 (p := l) 9 (.slice (some ⟨gg, oo + 1, none⟩) 64 (cc - 1))) (fun _ _ h => h))))
            have oD := Only.refl (fun _ => False) W5
            clear o5 HL5 HKF r6 z6
            go_region
            all_goals
              go_wp2_with fail
              go_end0
              have HG : ∀ y, (Value.slice (some ⟨gg, oo + 1, none⟩) 64 (cc - 1)).ownBlock = some y → (Value.slice ka xs.length kc).ownBlock = some y ∨ w.heap.size ≤ y := fun y hy => by
                simp [Value.ownBlock] at hy
                subst hy
                exact unhide Hgw
              first
              | exact ⟨rfl, _, (unhide HFN _ oD).1, (unhide HFN _ oD).2.1, (unhide HFN _ oD).2.2, HG⟩
              | exact ⟨rfl, _, (unhide HFN _ oD.drew).1, (unhide HFN _ oD.drew).2.1, (unhide HFN _ oD.drew).2.2, HG⟩
              | exact ⟨rfl, _, (unhide HFN _ (oD.drewO _)).1, (unhide HFN _ (oD.drewO _)).2.1, (unhide HFN _ (oD.drewO _)).2.2, HG⟩
        · have d1 : decide ((0 : Int) < (i : Int)) = false := decide_eq_false (by omega)
          have d1n : decide (0 < i) = false := decide_eq_false hc0
          have b9 : decide ((64 : Int) < (xs.length : Int)) = false := decide_eq_false (by omega)
          have HR := hide (And.intro hl1 (And.intro (⟨⟨xs, hkr1, hx64, fun x hx => ⟨(hxs1 x hx).1, fun y hy => .inl ((hxs1 x hx).2 y hy)⟩⟩, fun y hy => .inl (hko y hy)⟩ : KL wr 63 65 3 patC (.slice ka xs.length kc) (Mx M (.slice (some ⟨g, 0, none⟩) lst.length i) w wr)) (ho.mono (T := fun y => y = l ∨ (Value.slice (some ⟨g, 0, none⟩) lst.length i).ownBlock = some y ∨ (Value.slice ka xs.length kc).ownBlock = some y) (fun y _ e => .inr (.inl (by rw [e]; rfl))))))
          clear hkr hxs hko hkr1 hxs1 hl1 ho hH hp HK HL nM
          go_wp2_with fail
          go_end0
          exact ⟨rfl, _, (unhide HR).1, (unhide HR).2.1, (unhide HR).2.2, fun y hy => .inl hy⟩
end Go.Proofs.Qxb6500416a
