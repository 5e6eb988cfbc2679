/-
  OWN WORK. THE INDEX's POOL: prune, the walk.
-/
import Derived.Test.Qxb6500418aIPruneP
namespace Go.Proofs.Qxb6500418a
open Go.RowKit Go.PlainAid
set_option linter.unusedSimpArgs false
set_option linter.unusedVariables false

def WyAt (w : World) (b : Nat) (wy : Nat → Nat) : Prop := Has w b (tabV 7 (fun j => .int .i64 (wy j : Int))) 98
theorem WyAt.cel {w : World} {b : Nat} {wy : Nat → Nat} (h : WyAt w b wy) (j : Nat) (hj : j < 7) : w.cell? ⟨b, j, none⟩ = some (.int .i64 (wy j : Int)) ∧ w.frozen? ⟨b, j, none⟩ = false :=
  ⟨by rw [Has.cell h, tabV_get _ _ _ hj], Has.free h _⟩
theorem WyAt.set {w : World} {b : Nat} {wy : Nat → Nat} (h : WyAt w b wy) (j v : Nat) : WyAt (w.setCell ⟨b, j, none⟩ (.int .i64 (v : Int))) b (updT wy j v) := by
  have := Has.setCell h j (.int .i64 (v : Int))
  rw [tabV_set] at this
  unfold WyAt
  rw [tabV_congr 7 (g := fun i => .int .i64 ((updT wy j v i : Nat) : Int))] at this
  · exact this
  · intro i _
    by_cases e : i = j
    · subst e; rw [if_pos rfl, updT_same]
    · rw [if_neg e, updT_other _ _ _ _ e]
theorem WyAt.keep {S : Nat → Prop} {w w' : World} {b : Nat} {wy : Nat → Nat} (h : WyAt w b wy) (ho : Only S w w') (hS : ¬ S b) : WyAt w' b wy := Has.keep h ho hS
theorem WyAt.lt {w : World} {b : Nat} {wy : Nat → Nat} (h : WyAt w b wy) : b < w.heap.size := Has.lt h

section
variable {w : World} {x : Nat} {P : Nat → Nd} {fr fi : Nat} {fl : List Nat} {F : Fo}
set_option maxRecDepth 100000 in
set_option maxHeartbeats 4000000 in
theorem prune_any (h : IAt w x P fr (fi + 1)) (hv : IInv P fr F fl) (hw : F.Wf) (hsh : F.Short) (hfu : F.Full) (path : ByteArray) (ps : List Str) (hp : ls path = joinP ps) (hne : ps ≠ []) (hn : NamesOk ps) (hp6 : ps.length ≤ 6) (hsz : path.size ≤ 12) {c : Nat} {dd : Str} {mm : Int} (hlk : look ps F = .file c dd mm) (hfi : fi ≤ 1000) :
    Calls Try.prog 46 #[.pointer (some ⟨x, 0, none⟩), .string path] w fun e w' => e = .returned (.tuple #[]) ∧ (∃ P' fr' fl' G, IAt w' x P' fr' fi ∧ PrDone P' fr' fl' G F ps) ∧ Only (fun k => k = x) w w' := by
  have hW0 : WayD F ps c (fun _ => 0) 0 := by
    refine ⟨by omega, fun j h1 h2 => ?_, fun e => absurd (List.length_eq_zero_iff.1 e.symm) hne⟩
    have : j = 0 := by omega
    subst this
    exact ⟨F, rfl⟩
  have hP0 := PosAt.start hp hne hn
  have hxl := h.lt
  have o0 : Only (fun _ => False) w (w.alloc (.cells #[.int .i64 0, .int .i64 0, .int .i64 0, .int .i64 0, .int .i64 0, .int .i64 0, .int .i64 0] 98)) := (Only.refl _ w).alloc _
  have r0 : WyAt (w.alloc (.cells #[.int .i64 0, .int .i64 0, .int .i64 0, .int .i64 0, .int .i64 0, .int .i64 0, .int .i64 0] 98)) w.heap.size (fun _ => 0) := Has.new w _ 98
  have hx : ∃ bx, bx = w.heap.size := ⟨_, rfl⟩
  obtain ⟨bx, hbx⟩ := hx
  have hbx1 : w.heap.size ≤ bx := by omega
  have hxb : x ≠ bx := by omega
  have hbxx : bx ≠ x := by omega
  rw [← hbx] at r0
  have HW0 := hide hW0
  have HP0 := hide hP0
  have H0 := hide h
  have HO0 := hide o0
  have HR0 := hide r0
  have HV := hide (And.intro hv (And.intro hw (And.intro hsh (And.intro hfu (And.intro hne hlk)))))
  have hlen : 0 < ps.length := List.length_pos_iff.2 hne
  clear hW0 hP0 hv hw hsh hfu hp hn hne h o0 r0 hlk
  go_enter Try.func46, Try.ntmps46
  go_wp2_with fail
  rw [← hbx]
  clear hbx
  go_loopw [5, 6] (fun kv av wr => ∃ (k at_ : Nat) (wy : Nat → Nat), kv = .int .i64 k ∧ av = .int .i64 at_ ∧ k ≤ ps.length ∧ PosAt path at_ (ps.drop k) ∧ WayD F ps c wy k ∧ WyAt wr bx wy ∧ Only (fun _ => False) w wr) (fun _ av _ => (path.size + 1) - (intOf av).toNat)
  case atStart => exact ⟨0, 0, fun _ => 0, rfl, rfl, by omega, unhide HP0, unhide HW0, unhide HR0, unhide HO0⟩
  case round =>
    clear HW0 HP0 HO0 HR0
    obtain ⟨k, at_, wy, rfl, rfl, hkl, hpos, hWD, hWy, ho⟩ := hrel
    have h := (unhide H0).keep ho (fun h => h)
    have hxr := h.lt
    have hbr := hWy.lt
    by_cases hk : k = ps.length
    · have hge := hpos.done (by rw [hk, List.drop_length])
      have a1 : decide ((at_ : Int) < (path.size : Int)) = false := by simp; omega
      have a1' : ¬ at_ < path.size := by omega
      have hPr : Pru P fr fl F F ps wy k := by
        obtain ⟨v1, v2, v3, v4, v5, v6⟩ := unhide HV
        refine ⟨v1, v2, v3, hkl, hWD.dir, .inl ⟨hk, rfl, v4, dd, mm, ?_⟩⟩
        rw [hWD.last hk]
        exact v6
      have f1 := h.files_
      have h3 := h.setFiles fi
      have e0 : ((fi + 1 : Nat) : Int) = (fi : Int) + 1 := by omega
      rw [e0] at f1
      have o3 : Only (fun k => k = x) w (wr.setCell ⟨x, 393, none⟩ (.int .i64 (fi : Int))) := (ho.mono (T := fun k => k = x) (fun _ _ h => h.elim)).setCell (p := ⟨x, 393, none⟩) (fun _ => rfl) _
      have w3 : WyAt (wr.setCell ⟨x, 393, none⟩ (.int .i64 (fi : Int))) bx wy := Has.setCell_other hWy (p := ⟨x, 393, none⟩) hbxx _
      have H3 := hide h3
      have O3 := hide o3
      have W3 := hide w3
      have HPr := hide hPr
      have Hne := hide ((unhide HV).2.2.2.2.1)
      have e1 : (fi : Int) + 1 - 1 = (fi : Int) := by omega
      have hk6 : k ≤ 6 := by omega
      clear h hPr h3 o3 w3 hWD hpos ho hWy HV H0 e0 hk hkl hge
      go_wp2_with fail
      generalize wr.setCell ⟨x, 393, none⟩ (.int .i64 (fi : Int)) = W3 at *
      clear f1
      go_loopw [5] (fun kv wr => ∃ (k : Nat) (P' : Nat → Nd) (fr' : Nat) (fl' : List Nat) (G : Fo), kv = .int .i64 k ∧ k ≤ 6 ∧ IAt wr x P' fr' fi ∧ Pru P' fr' fl' G F ps wy k ∧ WyAt wr bx wy ∧ Only (fun k => k = x) w wr) (fun kv _ => (intOf kv).toNat)
      case atStart => exact ⟨k, P, fr, fl, F, rfl, hk6, unhide H3, unhide HPr, unhide W3, unhide O3⟩
      case round =>
        clear H3 HPr W3 O3 hk6
        obtain ⟨k, P', fr', fl', G, rfl, hk6, h, hS, hWy, ho⟩ := hrel
        have hxr := h.lt
        have hbr := hWy.lt
        by_cases hk0 : k = 0
        · subst hk0
          have hD := hide (hS.root (unhide Hne))
          have HH := hide h
          clear hS h
          go_wp2_with fail
          go_end0
          exact ⟨rfl, ⟨P', fr', fl', G, unhide HH, unhide hD⟩, ho⟩
        · obtain ⟨j, hj⟩ : ∃ j, j + 1 = k := ⟨k - 1, by omega⟩
          have hst := Pru.step (k := j) (hj.symm ▸ hS)
          rw [hj] at hst
          obtain ⟨hw1, hw2, hdone, hgo⟩ := hst
          have q1 := (hWy.cel k (by omega)).1
          have q0 := (hWy.cel j (by omega)).1
          have q2 := h.ch (wy k) hw2.2
          have k1 : (k : Int) < 7 := by omega
          have k0 : (0 : Int) < (k : Int) := by omega
          have k2 : (k : Int) - 1 = (j : Int) := by omega
          have k3 : (j : Int) < 7 := by omega
          have kw : IntKind.i64.wrap (j : Int) = (j : Int) := by rw [IntKind.wrap_i64]; omega
          have g1 : (wy k : Int) < 49 := by omega
          have Hj := hide hj
          clear hj hk0
          by_cases hc : (P' (wy k)).child = 0
          · obtain ⟨K, n, u1, u2, u3, u4, u5⟩ := hgo hc
            have C3 := hide (fun W (hW : Only (fun _ => False) wr W) => unlink_any (h.keep hW (fun h => h)) (wy j) (wy k) hw1 K n u1 u2 u3 u4)
            have e2 : (((P' (wy k)).child : Int) != 0) = false := by rw [hc]; rfl
            have U5 := hide u5
            clear hdone hgo hS hc h u1 u2 u3 u4 u5
            generalize (P' (wy k)).child = ch at *
            generalize unlP P' K (wy j) (wy k) fr' = PX at *
            generalize wy k = wk at *
            generalize hwj : wy j = wj at *
            clear hwj
            go_wp2_with fail
            go_quiet (fail)
            have hoq := (Only.refl (fun _ => False) wr).drewO nq
            have hx1 : x < (wr.drewN nq).heap.size := hxr
            have hb1 : bx < (wr.drewN nq).heap.size := hbr
            have q1' : (wr.drewN nq).cell? ⟨bx, k, none⟩ = some (.int .i64 (wk : Int)) := q1
            have q0' : (wr.drewN nq).cell? ⟨bx, j, none⟩ = some (.int .i64 (wj : Int)) := q0
            generalize wr.drewN nq = W1 at *
            clear q0 q1 q2
            go_upto_region 12 with fail
            go_region_with (go_at_call 59; refine ((unhide C3) _ ?_).mono ?_; exact hoq.drew; rintro e w2 ⟨rfl, h2, ho2⟩)
            all_goals
              go_wp2_with fail
              go_roundw
              case rel => exact ⟨j, _, _, _, _, by first | rfl | go_num, by omega, h2, unhide U5, hWy.keep (((hoq.mono (T := fun k => k = x) (fun _ _ h => h.elim)).drew).trans ho2 (fun _ _ h => h)) hbxx, (ho.trans ((hoq.mono (T := fun k => k = x) (fun _ _ h => h.elim)).drew) (fun _ _ h => h)).trans ho2 (fun _ _ h => h)⟩
              case measure => simp [intOf]; omega
          · have e2 : (((P' (wy k)).child : Int) != 0) = true := by simp; omega
            have hD := hide (hdone hc)
            have HH := hide h
            clear hdone hgo hS hc h
            go_wp2_with fail
            go_quiet (fail)
            have hoq := ho.drewO nq
            have hhq : IAt (wr.drewN nq) x P' fr' fi := (unhide HH).keep ((Only.refl (fun _ => False) wr).drewO nq) (fun h => h)
            generalize wr.drewN nq = W1 at *
            go_wp2_with fail
            refine bodyPost_ret (results_none rfl _ _ _) rfl ?_
            exact ⟨rfl, ⟨P', fr', fl', G, hhq, unhide hD⟩, hoq⟩
    · have hk' : k < ps.length := by omega
      rw [drop_at hk'] at hpos
      obtain ⟨_, hlt⟩ := hpos.more (List.cons_ne_nil _ _)
      have a1 : decide ((at_ : Int) < (path.size : Int)) = true := by simp; omega
      have a1' : at_ < path.size := hlt
      have a2 : decide ((k : Int) < 6) = true := by simp; omega
      obtain ⟨C1, hend, hxx, hlast, hpos2, hn12⟩ := hpos.step
      obtain ⟨v1, v2, v3, v4, v5, v6⟩ := unhide HV
      obtain ⟨K, hd, hWD2⟩ := hWD.step v6 hk'
      have hlK := Lay.dirAt v1.tr.lay hd
      have hsub := dirAt_ids hd
      have hdn : wy k < 49 := by
        have := hsub.subset (by simp : wy k ∈ wy k :: K.ids)
        simp at this
        rcases this with e | e
        · omega
        · exact (v1.tr.lay.rng _ e).2
      have hKl : K.ids.length ≤ 48 := by
        have h1 := hsub.length_le
        have h2 := v1.tr.len
        simp at h1
        omega
      have C1 := hide (C1 wr (by omega))
      have C2 := hide (fun W (hW : Only (fun _ => False) wr W) => childOf_any (h.keep hW (fun h => h)) (wy k) hdn K hlK (Nat.le_trans (sibs_ids K) hKl) ps[k])
      have Hpos2 := hide hpos2
      have HWD2 := hide hWD2
      have q0 := (hWy.cel k (by omega)).1
      obtain ⟨kk, hkk⟩ : ∃ kk, k + 1 = kk := ⟨_, rfl⟩
      have q1 := hWy.cel kk (by omega)
      have k1 : (kk : Int) < 7 := by omega
      have k2 : (k : Int) < 7 := by omega
      have k3 : (k : Int) + 1 = (kk : Int) := by omega
      have hkk1 : kk ≤ ps.length := by omega
      have kw : IntKind.i64.wrap (kk : Int) = (kk : Int) := by rw [IntKind.wrap_i64]; omega
      clear v1 v2 v3 v4 v5 v6 hpos hpos2 hlast hWD hWD2 h hsub hlK hd hKl
      rw [hkk] at Hpos2 HWD2
      clear hkk
      generalize idOf (K.hit ps[k]) = cc at *
      generalize ps[k] = n at *
      generalize hj : at_ + n.length = j at *
      have Hj := hide hj
      have hj1 : (at_ : Int) ≤ (j : Int) := by omega
      have hj2 : (j : Int) ≤ (path.size : Int) := by omega
      clear hj
      go_wp2_with fail
      refine (unhide C1).mono ?_
      rintro e w' ⟨rfl, rfl⟩
      clear C1
      go_upto_region 5 with fail
      go_region_with (go_at_call 56; refine ((unhide C2) _ ?_).mono ?_; exact (Only.refl _ wr).drew; rintro e w2 ⟨rfl, rfl⟩)
      all_goals
        go_wp2_with fail
        go_roundw
        case rel => exact ⟨kk, j + 1, updT wy kk cc, by first | rfl | go_num, by go_num, hkk1, unhide Hpos2, unhide HWD2, hWy.set kk cc, (ho.drew).setCell (p := ⟨bx, kk, none⟩) (fun h => by simp at h; omega) _⟩
        case measure => have := unhide Hj; simp [intOf]; omega
end
end Go.Proofs.Qxb6500418a
