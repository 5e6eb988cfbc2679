/-
  OWN WORK. THE DEVICE: After.
-/
import Derived.Test.Qxb6500417aGreatODevW
import Derived.Deep.DeepCutAuto
namespace Go.Proofs.Qxb6500417aGreat
open Go.RowKit
set_option linter.unusedSimpArgs false
set_option linter.unusedVariables false

def replayB (B : Nat → Nat) (recs : List Rec) : Nat → Nat := recs.foldl (fun D r => putB D r.1 r.2) B
theorem replayB_snoc (B : Nat → Nat) (recs : List Rec) (r : Rec) : replayB B (recs ++ [r]) = putB (replayB B recs) r.1 r.2 := by
  unfold replayB
  rw [List.foldl_append]
  rfl
theorem replayB_append (B : Nat → Nat) (a c : List Rec) : replayB B (a ++ c) = replayB (replayB B a) c := by
  unfold replayB
  rw [List.foldl_append]

theorem recDat_get : ∀ (recs : List Rec) (t i : Nat) (ht : t < recs.length), i < 64 → (recDat recs)[64 * t + i]? = some (.int .u8 (recs[t].2 i : Int)) := by
  intro recs
  induction recs with
  | nil => intro t i ht; simp at ht
  | cons a r ih =>
    intro t i ht hi
    have e : recDat (a :: r) = (List.range 64).map (u8f a.2) ++ recDat r := rfl
    have l4 : ((List.range 64).map (u8f a.2)).length = 64 := by simp
    rw [e]
    cases t with
    | zero =>
      rw [List.getElem?_append_left (by rw [l4]; omega)]
      simp [hi, u8f]
    | succ t =>
      rw [List.getElem?_append_right (by rw [l4]; omega), l4, show 64 * (t + 1) + i - 64 = 64 * t + i by omega]
      exact ih t i (by simpa using ht) hi
theorem recAt_get (recs : List Rec) (t : Nat) (ht : t < recs.length) : (recAt recs)[t]? = some (.int .i64 (recs[t].1 : Int)) := by
  simp [recAt, ht]

theorem ownsRow_at {w : World} {e n : Nat} {v : Value} {xs : List Value} (h : w.ownsRow 0 e 1 v n xs) (hn : 0 < n) : ∃ g cap, v = .slice (some ⟨g, 0, none⟩) n cap ∧ ∀ j u, xs[j]? = some u → w.cell? ⟨g, j, none⟩ = some u := by
  rcases h.2 with ⟨_, h0⟩ | ⟨g, cap, cur, rfl, _, _⟩
  · omega
  · refine ⟨g, cap, rfl, fun j u hu => ?_⟩
    have := h.cells (g := g) rfl j u hu
    have hadd : (⟨g, 0, none⟩ : Addr).add j = ⟨g, j, none⟩ := by unfold Addr.add; split <;> simp_all
    rwa [hadd] at this

set_option maxRecDepth 100000 in
set_option maxHeartbeats 4000000 in
theorem dvafter_any {w : World} {d : Nat} {D B : Nat → Nat} {recs : List Rec} {F : Nat → Prop} (h : DevAt w d D B recs F) (kk : Int) (hkeys : ∀ r ∈ recs, r.1 < 145) (hrl : recs.length ≤ 1000) :
    Calls Tryz.prog 58 #[.pointer (some ⟨d, 0, none⟩), .int .i64 kk] w fun e w' => e = .returned (.pointer (some ⟨w.heap.size, 0, none⟩)) ∧ DevAt w' w.heap.size (replayB B (recs.take kk.toNat)) (replayB B (recs.take kk.toNat)) [] (Ext (fun _ => False) w w') ∧ Only (fun _ => False) w w' := by
  go_enter Tryz.func58, Tryz.ntmps58
  go_wp2_with fail
  refine (dvnew_any w).mono ?_
  rintro e w1 ⟨rfl, hn1, ho1⟩
  have hi := h.inn
  obtain ⟨⟨b0, b1, av, dv, h1, h2, h3, h4, h5, n1, f, f0, f1, fa, fd⟩, _⟩ := h.quiet ho1
  obtain ⟨⟨c0, c1, av', dv', k1, k2, k3, k4, k5, nn, g, g0, g1, ga, gd⟩, _⟩ := hn1
  have lE : ∀ x, Ext (fun _ => False) w w1 x → w.heap.size ≤ x := Ext.le (fun _ h => h.elim) (Nat.le_refl _)
  have s1 := ho1.size
  have lc0 := lE _ g0
  have lc1 := lE _ g1
  have lc0' := k2.lt
  have lc1' := k3.lt
  have hdl := hi _ f
  have hb1l := hi _ f1
  have m2 := k1.ne k2 (by decide)
  have m3 := k1.ne k3 (by decide)
  have hB := fun x (hx : F x) => hi x hx
  have ga := fun k hk => lE _ (ga k hk)
  have gd := fun k hk => (⟨lE _ (gd k hk).1, (gd k hk).2⟩ : w.heap.size ≤ k ∧ _)
  clear g g0 g1 lE hi h
  obtain ⟨a4, p4, rfl⟩ := ownsRow_shape h4
  have H4 := hide h4
  have H5 := hide h5
  clear h4 h5 h2
  go_wp2_with fail
  go_loopw [6] (fun v wr => ∃ k : Nat, k ≤ 9280 ∧ v = .int .i64 k ∧ Has wr c0 (tabV 9280 (u8f (fun j => if j < k then B j else 0))) 5 ∧ Only (fun x => x = c0) w1 wr) (fun v _ => (9280 - intOf v).toNat)
  case atStart => exact ⟨0, by omega, rfl, by simpa using k2, Only.refl _ w1⟩
  case round =>
    obtain ⟨k, hk, rfl, hs, ho⟩ := hrel
    have e1 := h1.keep ho (by omega)
    have e3 := h3.keep ho (by omega)
    have j1 := k1.keep ho m2
    have q1 := e1.cell 1
    have q0 := j1.cell 0
    by_cases hk6 : k < 9280
    · have r3 := e3.cell k
      rw [u8_get _ _ _ hk6] at r3
      have r0 := hs.cell k
      rw [u8_get _ _ _ hk6] at r0
      have z0 := hs.free k
      have s2 := hs.setCell k (.int .u8 (B k : Int))
      rw [u8_set] at s2
      have ee : tabV 9280 (u8f (fun j => if j = k then B k else if j < k then B j else 0)) = tabV 9280 (u8f (fun j => if j < k + 1 then B j else 0)) := by
        apply u8_congr
        intro j hj
        by_cases e : j = k
        · subst e; rw [if_pos rfl, if_pos (by omega)]
        · rw [if_neg e]
          by_cases e' : j < k
          · rw [if_pos e', if_pos (by omega)]
          · rw [if_neg e', if_neg (by omega)]
      rw [ee] at s2
      have Hs := hide s2
      clear s2 ee
      generalize (if k < k then B k else 0) = z at *
      generalize B k = y at *
      have hk' : (k : Int) < 9280 := by omega
      go_wp2_with fail
      go_region
      all_goals
        go_wp2_with fail
        go_roundw
        case rel => exact ⟨k + 1, by omega, by go_num, unhide Hs, (ho.setCell (p := ⟨c0, k, none⟩) (fun _ => rfl) _).drew⟩
        case measure => simp [intOf]; omega
    · obtain rfl : k = 9280 := by omega
      have ee : tabV 9280 (u8f (fun j => if j < 9280 then B j else 0)) = tabV 9280 (u8f B) := u8_congr _ (fun j hj => by rw [if_pos hj])
      rw [ee] at hs
      clear ee
      go_wp2_with fail
      clear q0 q1 e1 e3 j1
      generalize hwr : wr = wa at *
      clear hwr
      go_loopw [7] (fun v wr => ∃ t : Nat, t ≤ recs.length ∧ (t : Int) ≤ max kk 0 ∧ v = .int .i64 t ∧ Has wr c0 (tabV 9280 (u8f (replayB B (recs.take t)))) 5 ∧ Only (fun x => x = c0) w1 wr) (fun v _ => recs.length - (intOf v).toNat)
      case atStart => exact ⟨0, by omega, by omega, rfl, by simpa [replayB] using hs, ho⟩
      case round =>
        clear hs ho
        obtain ⟨t, ht, htk, rfl, hs, ho⟩ := hrel
        have e1 := h1.keep ho (by omega)
        have q2 := e1.cell 2
        by_cases hcon : t < recs.length ∧ (t : Int) < kk
        · obtain ⟨htl, htk2⟩ := hcon
          have a1 : decide ((t : Int) < (recs.length : Int)) = true := by simp; omega
          · have a2 : decide ((t : Int) < kk) = true := by simpa using htk2
            go_wp2_with fail
            obtain ⟨ga, gcap, hav, hgat⟩ := ownsRow_at (unhide H4) (by omega)
            obtain ⟨gd, gdc, hdv, hgd⟩ := ownsRow_at (unhide H5) (by omega)
            have ca := hgat t _ (recAt_get recs t htl)
            have hkey := hkeys _ (List.getElem_mem htl)
            have hfa := hB _ (fa ga (by rw [hav]; rfl))
            have hfd := hB _ (fd gd (by rw [hdv]; rfl)).1
            have cd : ∀ i, i < 64 → w1.cell? ⟨gd, 64 * t + i, none⟩ = some (.int .u8 (recs[t].2 i : Int)) := fun i hi6 => hgd _ _ (recDat_get recs t i htl hi6)
            have hsnoc := replayB_snoc B (recs.take t) recs[t]
            rw [← List.take_succ_eq_append_getElem htl] at hsnoc
            generalize recs[t] = rt at *
            obtain ⟨rb, rx⟩ := rt
            simp only at hkey cd hsnoc ca
            generalize replayB B (recs.take t) = R at *
            have Hsn := hide hsnoc
            have Hcd := hide cd
            clear hsnoc cd hgat hgd q2 e1
            rw [hav] at h1
            rw [hdv] at h1
            generalize hww : wr = wb at *
            clear hww
            go_loopw [8] (fun v wr => ∃ i : Nat, i ≤ 64 ∧ v = .int .i64 i ∧ Has wr c0 (tabV 9280 (u8f (putK R rb rx i))) 5 ∧ Only (fun x => x = c0) w1 wr) (fun v _ => (64 - intOf v).toNat)
            case atStart => exact ⟨0, by omega, rfl, by rw [putK_zero]; exact hs, ho⟩
            case round =>
              clear hs ho
              obtain ⟨i, hi6, rfl, hs, ho⟩ := hrel
              by_cases hi64 : i < 64
              · have e1 := h1.keep ho (by omega)
                have j1 := k1.keep ho m2
                have q0 := j1.cell 0
                have q2 := e1.cell 2
                have q3 := e1.cell 3
                have ca2 : wr.cell? ⟨ga, t, none⟩ = some (.int .i64 (rb : Int)) := by
                  rw [World.cell?_of_block (ho.block ga (by omega) (by omega))]; exact ca
                have cd2 : wr.cell? ⟨gd, t * 64 + i, none⟩ = some (.int .u8 (rx i : Int)) := by
                  rw [World.cell?_of_block (ho.block gd (by omega) (by omega)), show t * 64 + i = 64 * t + i by omega]; exact unhide Hcd i hi64
                have r0 := hs.cell (rb * 64 + i)
                rw [u8_get _ _ _ (by omega)] at r0
                have z0 := hs.free (rb * 64 + i)
                have s2 := hs.setCell (rb * 64 + i) (.int .u8 (rx i : Int))
                rw [u8_set, putK_succ] at s2
                have Hs := hide s2
                clear s2
                generalize putK R rb rx i (rb * 64 + i) = z at *
                generalize rx i = y at *
                have i1 : (rb : Int) * 64 + (i : Int) < 9280 := by omega
                have i2 : (0 : Int) ≤ (rb : Int) * 64 + (i : Int) := by omega
                have i3 : (t : Int) * 64 + (i : Int) < 64 * (recs.length : Int) := by omega
                have i4 : (0 : Int) ≤ (t : Int) * 64 + (i : Int) := by omega
                have i5 : (t : Int) < (recs.length : Int) := by omega
                have i6 : (i : Int) < 64 := by omega
                have i7 : (t : Int) * 64 + (i : Int) < ((64 * recs.length : Nat) : Int) := by omega
                go_wp2_with fail
                go_region
                all_goals
                  go_wp2_with fail
                  go_roundw
                  case rel => exact ⟨i + 1, by omega, by go_num, unhide Hs, (ho.setCell (p := ⟨c0, rb * 64 + i, none⟩) (fun _ => rfl) _).drew⟩
                  case measure => simp [intOf]; omega
              · obtain rfl : i = 64 := by omega
                have ep : putK R rb rx 64 = putB R rb rx := rfl
                rw [ep, ← unhide Hsn] at hs
                go_wp2_with fail
                go_roundw
                case rel => exact ⟨t + 1, by omega, by omega, by go_num, hs, ho⟩
                case measure => simp [intOf]; omega
        · have hT : recs.take t = recs.take kk.toNat := by
            by_cases htl : t < recs.length
            · have : t = kk.toNat := by omega
              rw [this]
            · rw [List.take_of_length_le (by omega), List.take_of_length_le (by omega)]
          have hcase : (∃ z, t < recs.length ∧ decide ((t : Int) < kk) = false ∧ z = 0) ∨ (∃ z : Nat, ¬ t < recs.length ∧ z = 0) := by
            by_cases htl : t < recs.length
            · left; exact ⟨0, htl, by simp; omega, rfl⟩
            · right; exact ⟨0, htl, rfl⟩
          rw [hT] at hs
          generalize hR : replayB B (recs.take kk.toNat) = R at hs
          have HR := hide hR
          clear hT hcon hR
          obtain ⟨bl, hbl⟩ : ∃ bl : Bool, decide ((t : Int) < (recs.length : Int)) = bl := ⟨_, rfl⟩
          have hbl2 : bl = false ∨ decide ((t : Int) < kk) = false := by
            rcases hcase with ⟨_, h1, h2, _⟩ | ⟨_, h1, _⟩
            · exact .inr h2
            · left; rw [← hbl]; simp; omega
          clear hcase
          go_upto_region 7 with fail
          go_cut [44] (fun v wx => v = .bool false ∧ wr = wx)
          case first =>
            cases bl with
            | false =>
              have hn : ¬ t < recs.length := by simpa using hbl
              have hn2 : ¬ (t : Int) < (recs.length : Int) := by omega
              go_wp2_with fail
              go_meet
              exact ⟨rfl, rfl⟩
            | true =>
              have hn : t < recs.length := by simpa using hbl
              have hn2 : (t : Int) < (recs.length : Int) := by omega
              have a2 : decide ((t : Int) < kk) = false := hbl2.resolve_left (by simp)
              go_wp2_with fail
              go_meet
              refine ⟨?_, rfl⟩
              first | exact rfl | rw [a2]
          case rest =>
            obtain ⟨rfl, rfl⟩ := hcut
            clear hbl hbl2
            go_wp2_with fail
            clear q2 e1
            have k3' := k3.keep ho (fun e => nn e.symm)
            have k1' := k1.keep ho m2
            have ho0 : Only (fun _ => False) w wr := ho1.trans ho (fun i hi e => by omega)
            generalize hww : wr = wb at *
            clear hww
            go_loopw [9] (fun v wr => ∃ i : Nat, i ≤ 9280 ∧ v = .int .i64 i ∧ Has wr c1 (tabV 9280 (u8f (fun j => if j < i then R j else 0))) 5 ∧ Only (fun x => x = c1) wb wr) (fun v _ => (9280 - intOf v).toNat)
            case atStart => exact ⟨0, by omega, rfl, by simpa using k3', Only.refl _ _⟩
            case round =>
              obtain ⟨i, hi6, rfl, hs2, ho2⟩ := hrel
              have j1 := k1'.keep ho2 m3
              have j2 := hs.keep ho2 nn
              have q0 := j1.cell 0
              have q1 := j1.cell 1
              by_cases hi64 : i < 9280
              · have r1 := hs2.cell i
                rw [u8_get _ _ _ hi64] at r1
                have r0 := j2.cell i
                rw [u8_get _ _ _ hi64] at r0
                have z0 := hs2.free i
                have s2 := hs2.setCell i (.int .u8 (R i : Int))
                rw [u8_set] at s2
                have ee : tabV 9280 (u8f (fun j => if j = i then R i else if j < i then R j else 0)) = tabV 9280 (u8f (fun j => if j < i + 1 then R j else 0)) := by
                  apply u8_congr
                  intro j hj
                  by_cases e : j = i
                  · subst e; rw [if_pos rfl, if_pos (by omega)]
                  · rw [if_neg e]
                    by_cases e' : j < i
                    · rw [if_pos e', if_pos (by omega)]
                    · rw [if_neg e', if_neg (by omega)]
                rw [ee] at s2
                have Hs := hide s2
                clear s2 ee
                generalize (if i < i then R i else 0) = z at *
                generalize R i = y at *
                have hk' : (i : Int) < 9280 := by omega
                go_wp2_with fail
                go_region
                all_goals
                  go_wp2_with fail
                  go_roundw
                  case rel => exact ⟨i + 1, by omega, by go_num, unhide Hs, (ho2.setCell (p := ⟨c1, i, none⟩) (fun _ => rfl) _).drew⟩
                  case measure => simp [intOf]; omega
              · obtain rfl : i = 9280 := by omega
                have ee : tabV 9280 (u8f (fun j => if j < 9280 then R j else 0)) = tabV 9280 (u8f R) := u8_congr _ (fun j hj => by rw [if_pos hj])
                rw [ee] at hs2
                have Hs := hide hs2
                clear ee
                have hoF := ho0.trans ho2 (fun i hi e => by omega)
                have sF := hoF.size
                have s2 := ho2.size
                go_wp2_with fail
                go_ret
                have hsb := ho.size
                rw [unhide HR]
                refine ⟨rfl, ⟨⟨c0, c1, av', dv', j1, j2, unhide Hs, ?_, ?_, nn, .inr ⟨Nat.le_refl _, j1.lt⟩, .inr ⟨lc0, j2.lt⟩, .inr ⟨lc1, (unhide Hs).lt⟩, ?_, ?_⟩, Ext.in (fun _ h => h.elim) sF⟩, hoF⟩
                · exact ownsRow_keep (ownsRow_keep k4 ho (fun y hy e => (ownsRow_ne k4 k2 (by decide)) y hy e)) ho2 (fun y hy e => (ownsRow_ne k4 k3 (by decide)) y hy e)
                · exact ownsRow_keep (ownsRow_keep k5 ho (fun y hy e => (gd y hy).2.1 e)) ho2 (fun y hy e => (gd y hy).2.2 e)
                · intro y hy
                  have := ga y hy
                  have := ownsRow_lt k4 y hy
                  exact .inr ⟨by omega, by omega⟩
                · intro y hy
                  have h1 := gd y hy
                  have := ownsRow_lt k5 y hy
                  exact ⟨.inr ⟨by omega, by omega⟩, h1.2⟩
end Go.Proofs.Qxb6500417aGreat
