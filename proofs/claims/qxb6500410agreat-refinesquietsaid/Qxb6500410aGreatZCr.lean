/-
  OWN WORK. THE FOREST MODEL: New, Clone, Crashed. (tools/gen_zcr.py writes it.)
-/
import Derived.Test.Qxb6500410aGreatZCom
namespace Go.Proofs.Qxb6500410aGreat
open Go.RowKit Go.PlainAid
set_option linter.unusedSimpArgs false
set_option linter.unusedVariables false

def S0 : Vu := fun _ => none
theorem Vok.zero : Vok S0 := ⟨(fun i l h => by cases h), (fun i _ => rfl), by decide⟩
def zrow : Array Value := tabV 50 (zF (stF S0 nilE) (stF S0 nilE) (stF S0 nilE) (.slice none 0 0) false)
theorem EB_nil {k : Nat} (h : EB nilE k) : False := by
  obtain ⟨i, hi, hk⟩ := h
  simp [nilE, Value.ownBlock] at hk
theorem StA.keep {B : Nat → Prop} {w w' : World} {x o : Nat} {S : Vu} {es : Nat → Value} (h : StA w x o S es) (ho : Only B w w') (hB : ¬ B x) : StA w' x o S es := fun j hj => by
  rw [World.cell?_of_block (ho.block x (World.block_lt_of_cell? w _ (h 0 (by omega))) hB)]
  exact h j hj
set_option maxRecDepth 100000 in
theorem znew_any (w : World) : Calls Tryz.prog 18 #[] w fun e w' => ∃ n H, e = .returned (.pointer (some ⟨n, 0, none⟩)) ∧ ZAt w' n S0 S0 S0 none false H ∧ (∀ k, H k → w.heap.size ≤ k) ∧ Only (fun _ => False) w w' := by
  have HP := hide (show ZAt (w.alloc (.cells zrow 84)) w.heap.size S0 S0 S0 none false (fun k => k = w.heap.size) from
    ⟨⟨nilE, nilE, nilE, .slice none 0 0, fun _ => False, Has.new _ _ _, ZE.nil _, ZE.nil _, ZE.nil _, rfl, fun k hk => EB_nil hk, fun k hk => EB_nil hk, fun k hk => (EB_nil hk).elim, fun k hk => hk.elim, fun i j g _ _ _ h => by simp [nilE, Value.ownBlock] at h⟩, Vok.zero, Vok.zero, Vok.zero, rfl, fun k hk => by rw [hk]; simp⟩)
  have HO := hide (show Only (fun _ => False) w (w.alloc (.cells zrow 84)) from (Only.refl _ w).alloc _)
  go_enter Tryz.func18, Tryz.ntmps18
  go_wp2_with fail
  change bodyPost _ _ _ _ _ (w.alloc (.cells zrow 84))
  go_ret
  exact ⟨w.heap.size, _, rfl, unhide HP, fun k hk => by rw [hk]; exact Nat.le_refl _, unhide HO⟩
/-- Three states in one block, each of its own rows. -/
theorem ZAt.mk3 {w : World} {n lo : Nat} {S T U : Vu} {op : Bool} {ea eb ec : Nat → Value} (h : Has w n (tabV 50 (zF (stF S ea) (stF T eb) (stF U ec) (.slice none 0 0) op)) 84) (A : ZE w ea S) (B : ZE w eb T) (C : ZE w ec U) (hS : Vok S) (hT : Vok T) (hU : Vok U)
    (la : Fre lo ea 8) (lb : ∀ k, EB eb k → lo ≤ k) (lc : ∀ k, EB ec k → lo ≤ k) (ab : ∀ k, EB ea k → ¬ EB eb k) (ac : ∀ k, EB ea k → ¬ EB ec k) (ln : lo ≤ n) : ∃ H, ZAt w n S T U none op H ∧ ∀ k, H k → lo ≤ k := by
  have na : ∀ {e : Nat → Value} {X : Vu}, ZE w e X → ∀ k, EB e k → k ≠ n := fun E k ⟨i, hi, hk⟩ e => ownsRow_ne (E.own i hi) h (by decide) k hk e
  refine ⟨fun k => k = n ∨ EB ea k ∨ EB eb k ∨ EB ec k, ⟨⟨ea, eb, ec, .slice none 0 0, fun k => EB eb k ∨ EB ec k, h, A, B, C, rfl, fun k hk => .inl hk, fun k hk => .inr hk, fun k hk => ⟨fun c => ?_, .inr (.inl hk)⟩, fun k hk => ?_, la.ap⟩, hS, hT, hU, .inl rfl, fun k hk => ?_⟩, fun k hk => ?_⟩
  · rcases c with c | c
    · exact ab k hk c
    · exact ac k hk c
  · rcases hk with c | c
    · exact ⟨.inr (.inr (.inl c)), na B k c⟩
    · exact ⟨.inr (.inr (.inr c)), na C k c⟩
  · rcases hk with c | c | c | c
    · rw [c]; exact h.lt
    · exact A.lt k c
    · exact B.lt k c
    · exact C.lt k c
  · rcases hk with c | c | c | c
    · rw [c]; exact ln
    · exact la.new k c
    · exact lb k c
    · exact lc k c
section
variable {w w' : World} {m : Nat} {S T U : Vu} {hist : Option Vu} {op : Bool} {H : Nat → Prop}
set_option maxRecDepth 100000 in
set_option maxHeartbeats 4000000 in
theorem zcloneW_any (h : ZAt w m S T U none op H) : Calls Tryz.prog 20 #[.pointer (some ⟨m, 0, none⟩)] w fun e w' => ∃ n H', e = .returned (.pointer (some ⟨n, 0, none⟩)) ∧ ZAt w' n S T U none op H' ∧ (∀ k, H' k → w.heap.size ≤ k) ∧ Only (fun _ => False) w w' := by
  have N0 : Has (w.alloc (.cells zrow 84)) w.heap.size zrow 84 := Has.new _ _ _
  have oo : Only (fun _ => False) w (w.alloc (.cells zrow 84)) := (Only.refl _ w).alloc _
  have h' := h.quiet oo
  have hml := h.nem
  have w0s : (w.alloc (.cells zrow 84)).heap.size = w.heap.size + 1 := by simp
  obtain ⟨es, et, eu, hv, O, h1, h2, h3, h4, h5, h6, h7, h8, h9, h10⟩ := h'.ex
  have ehv : hv = .slice none 0 0 := h5
  subst ehv
  have lts : ∀ k, EB es k → k < w.heap.size := fun k hk => h.inn k (h8 k hk).2
  have ltt : ∀ k, EB et k → k < w.heap.size := fun k hk => h.inn k (h9 k (h6 k hk)).1
  have ltu : ∀ k, EB eu k → k < w.heap.size := fun k hk => h.inn k (h9 k (h7 k hk)).1
  go_enter Tryz.func20, Tryz.ntmps20
  go_upto_region 2 with fail
  change Code.wp _ _ _ _ (w.alloc (.cells zrow 84))
  generalize w.alloc (.cells zrow 84) = w0 at *
  generalize hn : w.heap.size = n at *
  have O0 : Only (fun x => x = n) w0 w0 := Only.refl _ _
  unfold zrow at N0
  have C1 := hide (zclone_any ((zfA0 h1).keep O0 (fun e => by omega)) ((h2).keep O0 (fun x hx e => by have := lts x hx; omega)) (h.s).eSlen)
  go_wp2_with fail
  refine (unhide C1).mono ?_
  rintro e a1 ⟨e1, rfl, E1, F1, o1⟩
  have k1 := N0.keep o1 (fun h => h)
  have one1 := E1.one
  have r1 := O0.size
  have t1 := o1.size
  unfold stV
  go_upto_region 3 with (first | (refine wpList_store_at rfl 81 _ _ rfl n 0 16 (stF S e1) rfl rfl 50 _ 84 k1 zs_size (by omega) one1 ?_))
  have m1 := k1.setRowZ (tabV 50 (fun j => if 0 ≤ j ∧ j < 0 + 16 then stF S e1 (j - 0) else zF (stF S0 nilE) (stF S0 nilE) (stF S0 nilE) (.slice none 0 0) false j))
  have p1 : Only (fun x => x = n) a1 (a1.setRow n (tabV 50 (fun j => if 0 ≤ j ∧ j < 0 + 16 then stF S e1 (j - 0) else zF (stF S0 nilE) (stF S0 nilE) (stF S0 nilE) (.slice none 0 0) false j))) := setRow_only
  generalize a1.setRow n (tabV 50 (fun j => if 0 ≤ j ∧ j < 0 + 16 then stF S e1 (j - 0) else zF (stF S0 nilE) (stF S0 nilE) (stF S0 nilE) (.slice none 0 0) false j)) = b1 at *
  rw [zF_segCur] at m1
  have Q1 : Only (fun x => x = n) w0 b1 := (O0.trans o1 (fun _ _ h => h.elim)).trans p1 (fun _ _ h => h)
  have new1 := F1.new
  have E1 := E1.keep p1 (fun x hx e => by have := new1 x hx; omega)
  have u1 := p1.size
  clear C1 one1 k1
  have C2 := hide (zclone_any ((zfA16 h1).keep Q1 (fun e => by omega)) ((h3).keep Q1 (fun x hx e => by have := ltt x hx; omega)) (h.t).eSlen)
  go_wp2_with fail
  refine (unhide C2).mono ?_
  rintro e a2 ⟨e2, rfl, E2, F2, o2⟩
  have k2 := m1.keep o2 (fun h => h)
  have one2 := E2.one
  have r2 := Q1.size
  have t2 := o2.size
  unfold stV
  go_upto_region 4 with (first | (refine wpList_store_at rfl 81 _ _ rfl n 16 16 (stF T e2) rfl rfl 50 _ 84 k2 zs_size (by omega) one2 ?_))
  have m2 := k2.setRowZ (tabV 50 (fun j => if 16 ≤ j ∧ j < 16 + 16 then stF T e2 (j - 16) else zF (stF S e1) (stF S0 nilE) (stF S0 nilE) (.slice none 0 0) false j))
  have p2 : Only (fun x => x = n) a2 (a2.setRow n (tabV 50 (fun j => if 16 ≤ j ∧ j < 16 + 16 then stF T e2 (j - 16) else zF (stF S e1) (stF S0 nilE) (stF S0 nilE) (.slice none 0 0) false j))) := setRow_only
  generalize a2.setRow n (tabV 50 (fun j => if 16 ≤ j ∧ j < 16 + 16 then stF T e2 (j - 16) else zF (stF S e1) (stF S0 nilE) (stF S0 nilE) (.slice none 0 0) false j)) = b2 at *
  rw [zF_segCom] at m2
  have Q2 : Only (fun x => x = n) w0 b2 := (Q1.trans o2 (fun _ _ h => h.elim)).trans p2 (fun _ _ h => h)
  have new2 := F2.new
  have lt1 := E1.lt
  have E2 := E2.keep p2 (fun x hx e => by have := new2 x hx; omega)
  have u2 := p2.size
  clear C2 one2 k2
  have E1 := (E1.keep o2 (fun _ _ h => h)).keep p2 (fun x hx e => by have := new1 x hx; omega)
  have C3 := hide (zclone_any ((zfA32 h1).keep Q2 (fun e => by omega)) ((h4).keep Q2 (fun x hx e => by have := ltu x hx; omega)) (h.u).eSlen)
  go_wp2_with fail
  refine (unhide C3).mono ?_
  rintro e a3 ⟨e3, rfl, E3, F3, o3⟩
  have k3 := m2.keep o3 (fun h => h)
  have one3 := E3.one
  have r3 := Q2.size
  have t3 := o3.size
  unfold stV
  go_upto_region 5 with (first | (refine wpList_store_at rfl 81 _ _ rfl n 32 16 (stF U e3) rfl rfl 50 _ 84 k3 zs_size (by omega) one3 ?_))
  have m3 := k3.setRowZ (tabV 50 (fun j => if 32 ≤ j ∧ j < 32 + 16 then stF U e3 (j - 32) else zF (stF S e1) (stF T e2) (stF S0 nilE) (.slice none 0 0) false j))
  have p3 : Only (fun x => x = n) a3 (a3.setRow n (tabV 50 (fun j => if 32 ≤ j ∧ j < 32 + 16 then stF U e3 (j - 32) else zF (stF S e1) (stF T e2) (stF S0 nilE) (.slice none 0 0) false j))) := setRow_only
  generalize a3.setRow n (tabV 50 (fun j => if 32 ≤ j ∧ j < 32 + 16 then stF U e3 (j - 32) else zF (stF S e1) (stF T e2) (stF S0 nilE) (.slice none 0 0) false j)) = b3 at *
  rw [zF_segBase] at m3
  have Q3 : Only (fun x => x = n) w0 b3 := (Q2.trans o3 (fun _ _ h => h.elim)).trans p3 (fun _ _ h => h)
  have new3 := F3.new
  have E3 := E3.keep p3 (fun x hx e => by have := new3 x hx; omega)
  have u3 := p3.size
  clear C3 one3 k3
  have E1 := (E1.keep o3 (fun _ _ h => h)).keep p3 (fun x hx e => by have := new1 x hx; omega)
  have E2 := (E2.keep o3 (fun _ _ h => h)).keep p3 (fun x hx e => by have := new2 x hx; omega)
  have qf := h1.keep Q3 (fun e => by omega)
  have c4 := zF_op qf
  have c5 := zF_hv qf
  have d4 := zF_op m3
  have f4 := m3.free 49
  have m4 := m3.setCell 49 (.bool op)
  rw [zF_setOp] at m4
  have p4 : Only (fun x => x = n) b3 (b3.setCell ⟨n, 49, none⟩ (.bool op)) := only1 _ _
  have E1 := E1.keep p4 (fun x hx e => by have := new1 x hx; omega)
  have E2 := E2.keep p4 (fun x hx e => by have := new2 x hx; omega)
  have E3 := E3.keep p4 (fun x hx e => by have := new3 x hx; omega)
  have g1 := E1.lt
  have l2 : ∀ k, EB e2 k → w0.heap.size ≤ k := fun k hk => by have := new2 k hk; omega
  have l3 : ∀ k, EB e3 k → w0.heap.size ≤ k := fun k hk => by have := new3 k hk; omega
  have la : Fre n e1 8 := ⟨fun i hi => by obtain ⟨x, hx, hl⟩ := F1.low i hi; exact ⟨x, hx, by omega⟩, F1.ap⟩
  have HP := hide (ZAt.mk3 m4 E1 E2 E3 h.s h.t h.u la (fun k hk => by have := l2 k hk; omega) (fun k hk => by have := l3 k hk; omega) (fun k hk c => by have := lt1 k hk; have := new2 k c; omega) (fun k hk c => by have := lt1 k hk; have := new3 k c; omega) (Nat.le_refl n))
  have HO := hide ((oo.trans (Q3.trans p4 (fun _ _ h => h)) (fun k hk e => by omega)))
  have f5 : (b3.setCell ⟨n, 49, none⟩ (.bool op)).cell? ⟨m, 48, none⟩ = some (.slice none 0 0) := by
    rw [World.cell?_of_block (p4.block m (by omega) (by omega))]; exact c5
  clear h1 h2 h3 h4 h5 h6 h7 h8 h9 h10 E1 E2 E3 m1 m2 m3 m4 N0 qf
  go_upto_region 6 with fail
  generalize b3.setCell ⟨n, 49, none⟩ (.bool op) = w7 at *
  go_upto_region 7 with fail
  go_loopw [4] (fun iv wr => iv = .int .i64 0 ∧ wr = w7) (fun _ _ => 0)
  case atStart => exact ⟨rfl, rfl⟩
  case round =>
    obtain ⟨rfl, rfl⟩ := hrel
    go_wp2_with fail
    go_ret
    obtain ⟨H', Z, hH⟩ := unhide HP
    exact ⟨n, H', rfl, Z, fun k hk => (by rw [hn]; exact hH k hk), unhide HO⟩
set_option maxRecDepth 100000 in
set_option maxHeartbeats 4000000 in
theorem zafter_none (h : ZAt w m S T U none op H) : Calls Tryz.prog 78 #[.pointer (some ⟨m, 0, none⟩), .int .i64 0] w fun e w' => ∃ n H', e = .returned (.pointer (some ⟨n, 0, none⟩)) ∧ ZAt w' n U U U none false H' ∧ (∀ k, H' k → w.heap.size ≤ k) ∧ Only (fun _ => False) w w' := by
  have N0 : Has (w.alloc (.cells zrow 84)) w.heap.size zrow 84 := Has.new _ _ _
  have oo : Only (fun _ => False) w (w.alloc (.cells zrow 84)) := (Only.refl _ w).alloc _
  have h' := h.quiet oo
  have hml := h.nem
  have w0s : (w.alloc (.cells zrow 84)).heap.size = w.heap.size + 1 := by simp
  obtain ⟨es, et, eu, hv, O, h1, h2, h3, h4, h5, h6, h7, h8, h9, h10⟩ := h'.ex
  have ehv : hv = .slice none 0 0 := h5
  subst ehv
  have A0 := zfA32 h1
  have E0 := h4
  have lt0 : ∀ k, EB eu k → k < w.heap.size := fun k hk => h.inn k (h9 k (h7 k hk)).1
  go_enter Tryz.func78, Tryz.ntmps78
  go_upto_region 3 with fail
  change Code.wp _ _ _ _ (w.alloc (.cells zrow 84))
  generalize w.alloc (.cells zrow 84) = w0 at *
  generalize hn : w.heap.size = n at *
  have O0 : Only (fun x => x = n) w0 w0 := Only.refl _ _
  unfold zrow at N0
  have c5 := zF_hv h1
  have C1 := hide (zclone_any ((A0).keep O0 (fun e => by omega)) ((E0).keep O0 (fun x hx e => by have := lt0 x hx; omega)) (h.u).eSlen)
  go_wp2_with fail
  refine (unhide C1).mono ?_
  rintro e a1 ⟨e1, rfl, E1, F1, o1⟩
  have k1 := N0.keep o1 (fun h => h)
  have one1 := E1.one
  have r1 := O0.size
  have t1 := o1.size
  unfold stV
  go_upto_region 8 with (first | (refine wpList_store_at rfl 81 _ _ rfl n 16 16 (stF U e1) rfl rfl 50 _ 84 k1 zs_size (by omega) one1 ?_))
  have m1 := k1.setRowZ (tabV 50 (fun j => if 16 ≤ j ∧ j < 16 + 16 then stF U e1 (j - 16) else zF (stF S0 nilE) (stF S0 nilE) (stF S0 nilE) (.slice none 0 0) false j))
  have p1 : Only (fun x => x = n) a1 (a1.setRow n (tabV 50 (fun j => if 16 ≤ j ∧ j < 16 + 16 then stF U e1 (j - 16) else zF (stF S0 nilE) (stF S0 nilE) (stF S0 nilE) (.slice none 0 0) false j))) := setRow_only
  generalize a1.setRow n (tabV 50 (fun j => if 16 ≤ j ∧ j < 16 + 16 then stF U e1 (j - 16) else zF (stF S0 nilE) (stF S0 nilE) (stF S0 nilE) (.slice none 0 0) false j)) = b1 at *
  rw [zF_segCom] at m1
  have Q1 : Only (fun x => x = n) w0 b1 := (O0.trans o1 (fun _ _ h => h.elim)).trans p1 (fun _ _ h => h)
  have new1 := F1.new
  have E1 := E1.keep p1 (fun x hx e => by have := new1 x hx; omega)
  have u1 := p1.size
  clear C1 one1 k1
  have C2 := hide (zclone_any ((A0).keep Q1 (fun e => by omega)) ((E0).keep Q1 (fun x hx e => by have := lt0 x hx; omega)) (h.u).eSlen)
  go_wp2_with fail
  refine (unhide C2).mono ?_
  rintro e a2 ⟨e2, rfl, E2, F2, o2⟩
  have k2 := m1.keep o2 (fun h => h)
  have one2 := E2.one
  have r2 := Q1.size
  have t2 := o2.size
  unfold stV
  go_upto_region 9 with (first | (refine wpList_store_at rfl 81 _ _ rfl n 0 16 (stF U e2) rfl rfl 50 _ 84 k2 zs_size (by omega) one2 ?_))
  have m2 := k2.setRowZ (tabV 50 (fun j => if 0 ≤ j ∧ j < 0 + 16 then stF U e2 (j - 0) else zF (stF S0 nilE) (stF U e1) (stF S0 nilE) (.slice none 0 0) false j))
  have p2 : Only (fun x => x = n) a2 (a2.setRow n (tabV 50 (fun j => if 0 ≤ j ∧ j < 0 + 16 then stF U e2 (j - 0) else zF (stF S0 nilE) (stF U e1) (stF S0 nilE) (.slice none 0 0) false j))) := setRow_only
  generalize a2.setRow n (tabV 50 (fun j => if 0 ≤ j ∧ j < 0 + 16 then stF U e2 (j - 0) else zF (stF S0 nilE) (stF U e1) (stF S0 nilE) (.slice none 0 0) false j)) = b2 at *
  rw [zF_segCur] at m2
  have Q2 : Only (fun x => x = n) w0 b2 := (Q1.trans o2 (fun _ _ h => h.elim)).trans p2 (fun _ _ h => h)
  have new2 := F2.new
  have lt1 := E1.lt
  have E2 := E2.keep p2 (fun x hx e => by have := new2 x hx; omega)
  have u2 := p2.size
  clear C2 one2 k2
  have E1 := (E1.keep o2 (fun _ _ h => h)).keep p2 (fun x hx e => by have := new1 x hx; omega)
  have C3 := hide (zclone_any ((A0).keep Q2 (fun e => by omega)) ((E0).keep Q2 (fun x hx e => by have := lt0 x hx; omega)) (h.u).eSlen)
  go_wp2_with fail
  refine (unhide C3).mono ?_
  rintro e a3 ⟨e3, rfl, E3, F3, o3⟩
  have k3 := m2.keep o3 (fun h => h)
  have one3 := E3.one
  have r3 := Q2.size
  have t3 := o3.size
  unfold stV
  go_upto_region 10 with (first | (refine wpList_store_at rfl 81 _ _ rfl n 32 16 (stF U e3) rfl rfl 50 _ 84 k3 zs_size (by omega) one3 ?_))
  have m3 := k3.setRowZ (tabV 50 (fun j => if 32 ≤ j ∧ j < 32 + 16 then stF U e3 (j - 32) else zF (stF U e2) (stF U e1) (stF S0 nilE) (.slice none 0 0) false j))
  have p3 : Only (fun x => x = n) a3 (a3.setRow n (tabV 50 (fun j => if 32 ≤ j ∧ j < 32 + 16 then stF U e3 (j - 32) else zF (stF U e2) (stF U e1) (stF S0 nilE) (.slice none 0 0) false j))) := setRow_only
  generalize a3.setRow n (tabV 50 (fun j => if 32 ≤ j ∧ j < 32 + 16 then stF U e3 (j - 32) else zF (stF U e2) (stF U e1) (stF S0 nilE) (.slice none 0 0) false j)) = b3 at *
  rw [zF_segBase] at m3
  have Q3 : Only (fun x => x = n) w0 b3 := (Q2.trans o3 (fun _ _ h => h.elim)).trans p3 (fun _ _ h => h)
  have new3 := F3.new
  have lt2 := E2.lt
  have E3 := E3.keep p3 (fun x hx e => by have := new3 x hx; omega)
  have u3 := p3.size
  clear C3 one3 k3
  have E1 := (E1.keep o3 (fun _ _ h => h)).keep p3 (fun x hx e => by have := new1 x hx; omega)
  have E2 := (E2.keep o3 (fun _ _ h => h)).keep p3 (fun x hx e => by have := new2 x hx; omega)
  have l2 : ∀ k, EB e2 k → w0.heap.size ≤ k := fun k hk => by have := new2 k hk; omega
  have la : Fre n e2 8 := ⟨fun i hi => by obtain ⟨x, hx, hl⟩ := F2.low i hi; exact ⟨x, hx, by omega⟩, F2.ap⟩
  have HP := hide (ZAt.mk3 m3 E2 E1 E3 h.u h.u h.u la (fun k hk => by have := new1 k hk; omega) (fun k hk => by have := new3 k hk; omega) (fun k hk c => by have := lt1 k c; have := new2 k hk; omega) (fun k hk c => by have := lt2 k hk; have := new3 k c; omega) (Nat.le_refl n))
  have HO := hide (oo.trans Q3 (fun k hk e => by omega))
  clear h1 h2 h3 h4 h6 h7 h8 h9 h10 E1 E2 E3 m1 m2 m3 N0
  go_wp2_with fail
  go_ret
  obtain ⟨H', Z, hH⟩ := unhide HP
  exact ⟨n, H', rfl, Z, fun k hk => (by rw [hn]; exact hH k hk), unhide HO⟩
set_option maxRecDepth 100000 in
set_option maxHeartbeats 4000000 in
theorem zafter_some {X : Vu} (h : ZAt w m S T U (some X) op H) : Calls Tryz.prog 78 #[.pointer (some ⟨m, 0, none⟩), .int .i64 1] w fun e w' => ∃ n H', e = .returned (.pointer (some ⟨n, 0, none⟩)) ∧ ZAt w' n X X X none false H' ∧ (∀ k, H' k → w.heap.size ≤ k) ∧ Only (fun _ => False) w w' := by
  have N0 : Has (w.alloc (.cells zrow 84)) w.heap.size zrow 84 := Has.new _ _ _
  have oo : Only (fun _ => False) w (w.alloc (.cells zrow 84)) := (Only.refl _ w).alloc _
  have h' := h.quiet oo
  have hml := h.nem
  have w0s : (w.alloc (.cells zrow 84)).heap.size = w.heap.size + 1 := by simp
  obtain ⟨es, et, eu, hv, O, h1, h2, h3, h4, h5, h6, h7, h8, h9, h10⟩ := h'.ex
  obtain ⟨ex, q1, q2, q3, q4, hX⟩ := h5
  obtain ⟨g, cap, ehv, A0⟩ : ∃ g cap, hv = .slice (some ⟨g, 0, none⟩) 1 cap ∧ StA (w.alloc (.cells zrow 84)) g 0 X ex := by
    rcases q1.2 with ⟨_, hn⟩ | ⟨g, cap, cur, e, _⟩
    · cases hn
    · refine ⟨g, cap, e, fun j hj => ?_⟩
      have := World.ownsRow.cells q1 (g := g) (by rw [e]; rfl) j (stF X ex j) (by rw [Array.getElem?_toList, tabV_get _ _ _ hj])
      rw [addr_add] at this
      rw [Nat.zero_add]
      exact this
  have gw : g < w.heap.size := h.inn g (h9 g (q4 g (by rw [ehv]; rfl))).1
  subst ehv
  have E0 := q2
  have lt0 : ∀ k, EB ex k → k < w.heap.size := fun k hk => h.inn k (h9 k (q3 k hk)).1
  go_enter Tryz.func78, Tryz.ntmps78
  go_upto_region 3 with fail
  change Code.wp _ _ _ _ (w.alloc (.cells zrow 84))
  generalize w.alloc (.cells zrow 84) = w0 at *
  generalize hn : w.heap.size = n at *
  have O0 : Only (fun x => x = n) w0 w0 := Only.refl _ _
  unfold zrow at N0
  have c5 := zF_hv h1
  have C1 := hide (zclone_any ((A0).keep O0 (fun e => by omega)) ((E0).keep O0 (fun x hx e => by have := lt0 x hx; omega)) (hX).eSlen)
  go_wp2_with fail
  refine (unhide C1).mono ?_
  rintro e a1 ⟨e1, rfl, E1, F1, o1⟩
  have k1 := N0.keep o1 (fun h => h)
  have one1 := E1.one
  have r1 := O0.size
  have t1 := o1.size
  unfold stV
  go_upto_region 8 with (first | (refine wpList_store_at rfl 81 _ _ rfl n 16 16 (stF X e1) rfl rfl 50 _ 84 k1 zs_size (by omega) one1 ?_))
  have m1 := k1.setRowZ (tabV 50 (fun j => if 16 ≤ j ∧ j < 16 + 16 then stF X e1 (j - 16) else zF (stF S0 nilE) (stF S0 nilE) (stF S0 nilE) (.slice none 0 0) false j))
  have p1 : Only (fun x => x = n) a1 (a1.setRow n (tabV 50 (fun j => if 16 ≤ j ∧ j < 16 + 16 then stF X e1 (j - 16) else zF (stF S0 nilE) (stF S0 nilE) (stF S0 nilE) (.slice none 0 0) false j))) := setRow_only
  generalize a1.setRow n (tabV 50 (fun j => if 16 ≤ j ∧ j < 16 + 16 then stF X e1 (j - 16) else zF (stF S0 nilE) (stF S0 nilE) (stF S0 nilE) (.slice none 0 0) false j)) = b1 at *
  rw [zF_segCom] at m1
  have Q1 : Only (fun x => x = n) w0 b1 := (O0.trans o1 (fun _ _ h => h.elim)).trans p1 (fun _ _ h => h)
  have new1 := F1.new
  have E1 := E1.keep p1 (fun x hx e => by have := new1 x hx; omega)
  have u1 := p1.size
  clear C1 one1 k1
  have C2 := hide (zclone_any ((A0).keep Q1 (fun e => by omega)) ((E0).keep Q1 (fun x hx e => by have := lt0 x hx; omega)) (hX).eSlen)
  go_wp2_with fail
  refine (unhide C2).mono ?_
  rintro e a2 ⟨e2, rfl, E2, F2, o2⟩
  have k2 := m1.keep o2 (fun h => h)
  have one2 := E2.one
  have r2 := Q1.size
  have t2 := o2.size
  unfold stV
  go_upto_region 9 with (first | (refine wpList_store_at rfl 81 _ _ rfl n 0 16 (stF X e2) rfl rfl 50 _ 84 k2 zs_size (by omega) one2 ?_))
  have m2 := k2.setRowZ (tabV 50 (fun j => if 0 ≤ j ∧ j < 0 + 16 then stF X e2 (j - 0) else zF (stF S0 nilE) (stF X e1) (stF S0 nilE) (.slice none 0 0) false j))
  have p2 : Only (fun x => x = n) a2 (a2.setRow n (tabV 50 (fun j => if 0 ≤ j ∧ j < 0 + 16 then stF X e2 (j - 0) else zF (stF S0 nilE) (stF X e1) (stF S0 nilE) (.slice none 0 0) false j))) := setRow_only
  generalize a2.setRow n (tabV 50 (fun j => if 0 ≤ j ∧ j < 0 + 16 then stF X e2 (j - 0) else zF (stF S0 nilE) (stF X e1) (stF S0 nilE) (.slice none 0 0) false j)) = b2 at *
  rw [zF_segCur] at m2
  have Q2 : Only (fun x => x = n) w0 b2 := (Q1.trans o2 (fun _ _ h => h.elim)).trans p2 (fun _ _ h => h)
  have new2 := F2.new
  have lt1 := E1.lt
  have E2 := E2.keep p2 (fun x hx e => by have := new2 x hx; omega)
  have u2 := p2.size
  clear C2 one2 k2
  have E1 := (E1.keep o2 (fun _ _ h => h)).keep p2 (fun x hx e => by have := new1 x hx; omega)
  have C3 := hide (zclone_any ((A0).keep Q2 (fun e => by omega)) ((E0).keep Q2 (fun x hx e => by have := lt0 x hx; omega)) (hX).eSlen)
  go_wp2_with fail
  refine (unhide C3).mono ?_
  rintro e a3 ⟨e3, rfl, E3, F3, o3⟩
  have k3 := m2.keep o3 (fun h => h)
  have one3 := E3.one
  have r3 := Q2.size
  have t3 := o3.size
  unfold stV
  go_upto_region 10 with (first | (refine wpList_store_at rfl 81 _ _ rfl n 32 16 (stF X e3) rfl rfl 50 _ 84 k3 zs_size (by omega) one3 ?_))
  have m3 := k3.setRowZ (tabV 50 (fun j => if 32 ≤ j ∧ j < 32 + 16 then stF X e3 (j - 32) else zF (stF X e2) (stF X e1) (stF S0 nilE) (.slice none 0 0) false j))
  have p3 : Only (fun x => x = n) a3 (a3.setRow n (tabV 50 (fun j => if 32 ≤ j ∧ j < 32 + 16 then stF X e3 (j - 32) else zF (stF X e2) (stF X e1) (stF S0 nilE) (.slice none 0 0) false j))) := setRow_only
  generalize a3.setRow n (tabV 50 (fun j => if 32 ≤ j ∧ j < 32 + 16 then stF X e3 (j - 32) else zF (stF X e2) (stF X e1) (stF S0 nilE) (.slice none 0 0) false j)) = b3 at *
  rw [zF_segBase] at m3
  have Q3 : Only (fun x => x = n) w0 b3 := (Q2.trans o3 (fun _ _ h => h.elim)).trans p3 (fun _ _ h => h)
  have new3 := F3.new
  have lt2 := E2.lt
  have E3 := E3.keep p3 (fun x hx e => by have := new3 x hx; omega)
  have u3 := p3.size
  clear C3 one3 k3
  have E1 := (E1.keep o3 (fun _ _ h => h)).keep p3 (fun x hx e => by have := new1 x hx; omega)
  have E2 := (E2.keep o3 (fun _ _ h => h)).keep p3 (fun x hx e => by have := new2 x hx; omega)
  have l2 : ∀ k, EB e2 k → w0.heap.size ≤ k := fun k hk => by have := new2 k hk; omega
  have la : Fre n e2 8 := ⟨fun i hi => by obtain ⟨x, hx, hl⟩ := F2.low i hi; exact ⟨x, hx, by omega⟩, F2.ap⟩
  have HP := hide (ZAt.mk3 m3 E2 E1 E3 hX hX hX la (fun k hk => by have := new1 k hk; omega) (fun k hk => by have := new3 k hk; omega) (fun k hk c => by have := lt1 k c; have := new2 k hk; omega) (fun k hk c => by have := lt2 k hk; have := new3 k c; omega) (Nat.le_refl n))
  have HO := hide (oo.trans Q3 (fun k hk e => by omega))
  clear h1 h2 h3 h4 h6 h7 h8 h9 h10 E1 E2 E3 m1 m2 m3 N0
  go_wp2_with fail
  go_ret
  obtain ⟨H', Z, hH⟩ := unhide HP
  exact ⟨n, H', rfl, Z, fun k hk => (by rw [hn]; exact hH k hk), unhide HO⟩
def lastV (hist : Option Vu) (U : Vu) : Vu := hist.getD U
set_option maxRecDepth 100000 in
theorem zcrashed_any (h : ZAt w m S T U hist op H) : Calls Tryz.prog 29 #[.pointer (some ⟨m, 0, none⟩)] w fun e w' => ∃ n H', e = .returned (.pointer (some ⟨n, 0, none⟩)) ∧ ZAt w' n (lastV hist U) (lastV hist U) (lastV hist U) none false H' ∧ (∀ k, H' k → w.heap.size ≤ k) ∧ Only (fun _ => False) w w' := by
  obtain ⟨es, et, eu, hv, O, h1, h2, h3, h4, h5, _⟩ := h.ex
  have c5 := zF_hv h1
  obtain ⟨x, n, cap, ehv, hn⟩ := h5.shape
  subst ehv
  cases hist with
  | none =>
    have hn0 : n = 0 := hn
    clear hn
    subst hn0
    have C1 := hide (zafter_none h)
    clear h1 h2 h3 h4 h5
    go_enter Tryz.func29, Tryz.ntmps29
    go_wp2_with fail
    refine (unhide C1).mono ?_
    rintro e w1 ⟨n, H', rfl, Z, hH, o⟩
    have FF := hide (And.intro Z (And.intro hH o))
    clear Z hH o
    go_wp2_with fail
    go_ret
    exact ⟨n, H', rfl, unhide FF⟩
  | some X =>
    have hn0 : n = 1 := hn
    clear hn
    subst hn0
    have C1 := hide (zafter_some h)
    clear h1 h2 h3 h4 h5
    go_enter Tryz.func29, Tryz.ntmps29
    go_wp2_with fail
    refine (unhide C1).mono ?_
    rintro e w1 ⟨n, H', rfl, Z, hH, o⟩
    have FF := hide (And.intro Z (And.intro hH o))
    clear Z hH o
    go_wp2_with fail
    go_ret
    exact ⟨n, H', rfl, unhide FF⟩
end
end Go.Proofs.Qxb6500410aGreat
