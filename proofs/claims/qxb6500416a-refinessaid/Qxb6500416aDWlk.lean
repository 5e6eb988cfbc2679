/-
  OWN WORK. THE LAW OF DIFF: the walk.
-/
import Derived.Test.Qxb6500416aDL28
import Derived.Test.Qxb6500416aOpsDef
namespace Go.Proofs.Qxb6500416a
open Go.RowKit Go.PlainAid
set_option linter.unusedSimpArgs false
set_option linter.unusedVariables false

theorem dlground_any (w : World) : Calls Try.prog 8 #[] w fun e w' => (∃ v, e = .returned v) ∧ Only (fun _ => False) w w' := by
  have o := (Only.refl (fun _ => False) w).alloc (.cells #[] 28)
  go_enter Try.func8, Try.ntmps8
  go_wp2_with fail
  refine bodyPost_ret (v := .agg #[]) (by simp [results, Try.results8, go_sem]) rfl ?_
  exact ⟨⟨_, rfl⟩, o⟩
theorem dmnew_ptr (w : World) :
    Calls Try.prog 10 #[] w fun x w' => ∃ m : Nat, x = .returned (.pointer (some ⟨m, 0, none⟩)) ∧ Only (fun _ => False) w w' := by
  have o0 : ∀ b, Only (fun _ => False) w (w.alloc b) := fun b => (Only.refl _ w).alloc _
  go_enter Try.func10, Try.ntmps10
  go_wp2_with fail
  go_ret
  exact ⟨_, rfl, o0 _⟩
def zeroWorld : Array Value := #[.pointer none, .pointer none, .slice none 0 0, .string ⟨#[]⟩, .slice none 0 0, .slice none 0 0, .slice none 0 0, .slice none 0 0, .slice none 0 0, .slice none 0 0]
/-- The law's state at the start. -/
theorem LS.start {w w1 w2 : World} {l e m : Nat} (h0 : w.heap.size ≤ l) (hl : Has w1 l zeroWorld 41) (he : EP w2 e [] (fun y => y = e)) (hle : w1.heap.size ≤ e) (ho : Only (fun _ => False) w1 w2) (w3 : World) (ho3 : Only (fun _ => False) (w2.setCell ⟨l, 0, none⟩ (.pointer (some ⟨e, 0, none⟩))) w3) :
    LI w.heap.size (w3.setCell ⟨l, 1, none⟩ (.pointer (some ⟨m, 0, none⟩))) l := by
  have hlt := hl.lt
  have hne : l ≠ e := by omega
  have s1 := ho.size
  have o2 := donly1 (w := w2) (p := l) 0 (.pointer (some ⟨e, 0, none⟩))
  have s2 := o2.size
  have s3 := ho3.size
  have o4 := donly1 (w := w3) (p := l) 1 (.pointer (some ⟨m, 0, none⟩))
  have s4 := o4.size
  have a1 : LW w2 l (.pointer none) (.pointer none) (.slice none 0 0) (.string ⟨#[]⟩) (.slice none 0 0) (.slice none 0 0) (.slice none 0 0) (.slice none 0 0) (.slice none 0 0) (.slice none 0 0) := hl.keep ho (fun h => h)
  have a2 : LW (w2.setCell ⟨l, 0, none⟩ (.pointer (some ⟨e, 0, none⟩))) l (.pointer (some ⟨e, 0, none⟩)) (.pointer none) (.slice none 0 0) (.string ⟨#[]⟩) (.slice none 0 0) (.slice none 0 0) (.slice none 0 0) (.slice none 0 0) (.slice none 0 0) (.slice none 0 0) := by simpa [LW] using Has.setCell a1 0 (.pointer (some ⟨e, 0, none⟩))
  have a3 := LW.keep a2 ho3 (fun h => h)
  have a4 : LW (w3.setCell ⟨l, 1, none⟩ (.pointer (some ⟨m, 0, none⟩))) l (.pointer (some ⟨e, 0, none⟩)) (.pointer (some ⟨m, 0, none⟩)) (.slice none 0 0) (.string ⟨#[]⟩) (.slice none 0 0) (.slice none 0 0) (.slice none 0 0) (.slice none 0 0) (.slice none 0 0) (.slice none 0 0) := by simpa [LW] using Has.setCell a3 1 (.pointer (some ⟨m, 0, none⟩))
  have e4 := ((he.keep o2 (fun y hy e' => by have h1 : y = e := hy; have h2 : y = l := e'; exact hne (h2.symm.trans h1))).keep ho3 (fun _ _ h => h)).keep o4 (fun y hy e' => by have h1 : y = e := hy; have h2 : y = l := e'; exact hne (h2.symm.trans h1))
  refine LS.li (R := fun _ => False) (M := fun _ => False) (hs := []) (p := []) (A0 := []) (A1 := []) { lw := a4, ep := e4, pat := PatO.nil _ _, dst := by simp [Dst, hvB], pb := PB.nil, f0 := World.ownsRow_nil _ _ _ _, f1 := World.ownsRow_nil _ _ _ _, n0 := by simp, n1 := by simp, rf := fun y hy => by simp [Value.ownBlock] at hy, r01 := fun y hy => by simp [Value.ownBlock] at hy, kl0 := KL.nil _ _ _ _ _ _, kl1 := KL.nil _ _ _ _ _ _, kl2 := KL.nil _ _ _ _ _ _, kl3 := KL.nil _ _ _ _ _ _, sFR := fun _ _ h => h, sFM := fun _ _ h => h, sRM := fun _ h => h.elim, lF := hne, lR := fun h => h, lM := fun h => h, Rlt := fun _ h => h.elim, Mlt := fun _ h => h.elim, bl := h0, bF := fun y hy => by have h1 : y = e := hy; omega, bR := fun _ h => h.elim, bM := fun _ h => h.elim, bw := by omega }
set_option maxRecDepth 100000 in
set_option maxHeartbeats 16000000 in
theorem dlwalk_any (ad : Option Addr) (len cap : Nat) (ops : List OpD) (quiet : Bool) (w : World) (hops : OpsAt w ad len ops) (hlen : len ≤ 4398046511104) :
    Calls Try.prog 7 #[.slice ad len cap, .bool quiet] w fun e w' => (∃ v, e = .returned (.tuple #[.int .i64 (-1), v])) ∧ Below w.heap.size w w' := by
  go_enter Try.func7, Try.ntmps7
  go_wp2_with fail
  refine (dlground_any _).mono ?_
  rintro e w1 ⟨⟨gv, rfl⟩, ho1⟩
  have s1 := ho1.size
  obtain ⟨l, hl⟩ : ∃ l, l = w1.heap.size := ⟨_, rfl⟩
  have k1 := Has.new' w1 zeroWorld 41 l hl
  have hl0 : w.heap.size ≤ l := by omega
  have oA := ho1.alloc (.cells zeroWorld 41)
  have OA := hide oA
  have Hl := hide hl
  clear ho1 oA hl s1
  go_upto_region 3 with fail
  rw [← unhide Hl]
  clear Hl
  change Code.wp _ _ _ _ (w1.alloc (.cells zeroWorld 41))
  generalize w1.alloc (.cells zeroWorld 41) = W1 at *
  go_wp2_with fail
  refine (dnew_any _).mono ?_
  rintro y w2 ⟨e, rfl, he0, he1, hE, o2⟩
  have k2 := k1.keep o2 (fun h => h)
  have c0 : w2.cell? ⟨l, 0, none⟩ = some (.pointer none) := k2.cell 0
  have f0 := k2.free 0
  have ll2 := k2.lt
  have HS := hide (fun m w3 h => LS.start (m := m) hl0 k1 hE he0 o2 w3 h)
  have k2' := k2.setCell 0 (.pointer (some ⟨e, 0, none⟩))
  have K2 := hide k2'
  have O2 := hide ((unhide OA).trans o2 (fun _ _ h => h))
  clear k1 k2 k2' hE o2 he0 he1 OA
  go_wp2_with fail
  refine (dmnew_ptr _).mono ?_
  rintro y w3 ⟨m, rfl, o3⟩
  have k3 := (unhide K2).keep o3 (fun h => h)
  have c1 : w3.cell? ⟨l, 1, none⟩ = some (.pointer none) := by
    have := k3.cell 1
    simpa [zeroWorld] using this
  have f1 := k3.free 1
  have ll3 := k3.lt
  have HI := hide (unhide HS m w3 o3)
  have HB : Hid (Below w.heap.size w (w3.setCell ⟨l, 1, none⟩ (.pointer (some ⟨m, 0, none⟩)))) := hide (Only.bel (Below.refl _ _) (((((unhide O2).mono (T := fun y => y = l) (fun _ _ h => h.elim)).trans (donly1 (w := w2) (p := l) 0 (.pointer (some ⟨e, 0, none⟩))) (fun _ _ h => h)).trans o3 (fun _ _ h => h.elim)).trans (donly1 (w := w3) (p := l) 1 (.pointer (some ⟨m, 0, none⟩))) (fun _ _ h => h)) (fun k hk => by have h1 : k = l := hk; omega))
  clear k3 K2 O2 HS c0 f0 ll2 o3
  go_upto_if 20 with fail
  generalize w3.setCell ⟨l, 1, none⟩ (.pointer (some ⟨m, 0, none⟩)) = W5 at *
  clear c1 f1 ll3
  go_cut [] (fun wx => W5 = wx)
  case first =>
    cases quiet with
    | true =>
      refine wp_cond_false rfl ?_
      go_wp2_with fail
      go_meet
      rfl
    | false =>
      refine wp_cond_true rfl ?_
      obtain ⟨e9, mp, pv, r0, r1, k0, k1, k2, k3, tx, hs, p, A0, A1, L, F, R, M, h9⟩ := unhide HI
      have q0 := Has.cell h9.lw 0
      have ql := Has.lt h9.lw
      have C := hide (dcheck_any (.pointer (some ⟨e9, 0, none⟩)) W5)
      clear h9
      go_wp2_with fail
      refine (unhide C).mono ?_
      rintro y w7 ⟨rfl, rfl⟩
      go_wp2_with fail
      go_meet
      rfl
  case rest =>
  subst hcut
  go_wp2_with fail
  go_loopw [7] (fun iv wr => ∃ (k : Nat), k ≤ len ∧ iv = .int .i64 k ∧ Hid (LI w.heap.size wr l) ∧ Hid (Below w.heap.size w wr)) (fun iv _ => len - (intOf iv).toNat)
  case atStart => exact ⟨0, Nat.zero_le _, rfl, HI, HB⟩
  case round =>
    clear HI HB
    obtain ⟨k, hk, rfl, HI, HB⟩ := hrel
    by_cases hkl : k < len
    · obtain ⟨hol, hoa⟩ := hops
      obtain ⟨ab, aoff, rfl, hcells⟩ := hoa (by omega)
      obtain ⟨y0, y1, y2, y3, y4, y5, hsz⟩ := hcells k (by omega)
      clear hcells hoa
      have hbel := unhide HB
      have hab : ab < w.heap.size := World.block_lt_of_cell? w ⟨ab, aoff + k * 6, none⟩ y0
      rw [← hbel.cell (p := ⟨ab, aoff + k * 6, none⟩) hab] at y0
      rw [← hbel.cell (p := ⟨ab, aoff + k * 6 + 1, none⟩) hab] at y1
      rw [← hbel.cell (p := ⟨ab, aoff + k * 6 + 2, none⟩) hab] at y2
      rw [← hbel.cell (p := ⟨ab, aoff + k * 6 + 3, none⟩) hab] at y3
      rw [← hbel.cell (p := ⟨ab, aoff + k * 6 + 4, none⟩) hab] at y4
      rw [← hbel.cell (p := ⟨ab, aoff + k * 6 + 5, none⟩) hab] at y5
      generalize ops[k]'(by omega) = o at *
      obtain ⟨ok, oa, oo2, oc, os, ot⟩ := o
      simp only at y0 y1 y2 y3 y4 y5 hsz
      have hkI : (k : Int) < (len : Int) := by omega
      have hkM : decide ((k : Int) < 4398046511104) = true := by simp; omega
      have C1 := hide (play_any (unhide HI) ok oa oo2 oc os ot (by unfold maxLen at hsz; omega))
      clear hbel
      go_wp2_with fail
      refine (unhide C1).mono ?_
      rintro y wa ⟨rfl, hp⟩
      have HI1 := hide hp.1
      have HB1 := hide (Only.bel (unhide HB) hp.2 (fun k hk => hk))
      have C2 := hide (untouched_li hp.1)
      clear hp C1 HB HI y0 y1 y2 y3 y4 y5
      go_wp2_with fail
      refine (unhide C2).mono ?_
      rintro y wb ⟨rfl, ob⟩
      have HI2 := hide ((unhide HI1).quiet ob)
      have HB2 := hide (Only.bel (unhide HB1) ob (fun k hk => hk.elim))
      clear ob C2 HI1 HB1
      cases quiet with
      | true =>
        go_wp2_with fail
        go_roundw
        case rel => exact ⟨k + 1, by omega, by go_num, HI2, HB2⟩
        case measure => simp [intOf]; omega
      | false =>
        obtain ⟨e9, mp, pv, r0, r1, k0, k1, k2, k3, tx, hs, p, A0, A1, L, F, R, M, h9⟩ := unhide HI2
        have q0 := Has.cell h9.lw 0
        have ql := Has.lt h9.lw
        have C := hide (dcheck_any (.pointer (some ⟨e9, 0, none⟩)) wb)
        clear h9
        go_wp2_with fail
        refine (unhide C).mono ?_
        rintro y w7 ⟨rfl, rfl⟩
        go_wp2_with fail
        go_roundw
        case rel => exact ⟨k + 1, by omega, by go_num, HI2, HB2⟩
        case measure => simp [intOf]; omega
    · have hkI : decide ((k : Int) < (len : Int)) = false := by simp; omega
      have hb := unhide HB
      clear HI
      by_cases hl8 : len < 4398046511104
      · have hl9 : decide ((len : Int) < 4398046511104) = true := by simp; omega
        go_wp2_with fail
        go_ret2
        exact ⟨⟨_, rfl⟩, hb⟩
      · have hl9 : decide ((len : Int) < 4398046511104) = false := by simp; omega
        go_wp2_with fail
        go_ret2
        exact ⟨⟨_, rfl⟩, hb⟩
end Go.Proofs.Qxb6500416a
