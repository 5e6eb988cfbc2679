/-
  OWN WORK. TXN: checkLocks (written by tools/gen_x22.py).
-/
import Derived.Test.Qxb6500414aGreatX21
import Derived.Deep.RegionWith
namespace Go.Proofs.Qxb6500414aGreat
open Go.RowKit Go.PlainAid
set_option linter.unusedSimpArgs false
set_option linter.unusedVariables false

section
variable {q : Gnd} {w w' : World} {g x : Nat} {X : Xs} {op : Bool} {S : Vu} {T : List (Tb × Hd)} {D : Db}
/-- The schema's block, and the store behind the call. -/
def SoF (q : Gnd) (w : World) (g x : Nat) (X : Xs) (op : Bool) (S : Vu) (kb : Nat) (vs : Array Value) (w' : World) : Prop := w.heap.size ≤ kb ∧ Has w' kb vs 51 ∧ XR q w' g x X op S ∧ Only q.S w w'
theorem so_first {w5 : World} (hX : XR q w g x X op S) (h5 : ST q w5 x op S) (o5 : Only q.S w.drew w5) (vs : Array Value) : SoF q w g x X op S w5.heap.size vs (w5.alloc (.cells vs 51)) := by
  have oA : Only q.S w w5 := (((Only.refl (fun _ => False) w).drew).mono (fun _ _ e => e.elim)).trans o5 (fun _ _ e => e)
  have h := hX.turn h5 oA
  exact ⟨oA.size, Has.new w5 vs 51, h.quiet ((Only.refl _ w5).alloc _), oA.trans (((Only.refl (fun _ => False) w5).alloc _).mono (fun _ _ e => e.elim)) (fun _ _ e => e)⟩
theorem so_last {w5 : World} (hX : XR q w g x X op S) (h5 : ST q w5 x op S) (o5 : Only q.S (w.alloc (.cells #[.string ⟨#[]⟩, .slice none 0 0, .int .i64 0, .int .i64 0] 51)).drew w5) (v0 v1 v2 v3 : Value) : (w5.cell? ⟨w.heap.size, 0, none⟩ = some (.string ⟨#[]⟩) ∧ w5.cell? ⟨w.heap.size, 1, none⟩ = some (.slice none 0 0) ∧ w5.cell? ⟨w.heap.size, 2, none⟩ = some (.int .i64 0) ∧ w5.cell? ⟨w.heap.size, 3, none⟩ = some (.int .i64 0) ∧ w5.frozen? ⟨w.heap.size, 0, none⟩ = false ∧ w5.frozen? ⟨w.heap.size, 1, none⟩ = false ∧ w5.frozen? ⟨w.heap.size, 2, none⟩ = false ∧ w5.frozen? ⟨w.heap.size, 3, none⟩ = false) ∧ SoF q w g x X op S w.heap.size #[v0, v1, v2, v3] ((((w5.setCell ⟨w.heap.size, 0, none⟩ v0).setCell ⟨w.heap.size, 1, none⟩ v1).setCell ⟨w.heap.size, 2, none⟩ v2).setCell ⟨w.heap.size, 3, none⟩ v3) ∧ ∀ {cv : Value} {cols : List Cl}, OwnC w5 cv cols → Newer (w.alloc (.cells #[.string ⟨#[]⟩, .slice none 0 0, .int .i64 0, .int .i64 0] 51)).drew cv → OwnC ((((w5.setCell ⟨w.heap.size, 0, none⟩ v0).setCell ⟨w.heap.size, 1, none⟩ v1).setCell ⟨w.heap.size, 2, none⟩ v2).setCell ⟨w.heap.size, 3, none⟩ v3) cv cols := by
  have oZ : Only (fun _ => False) w (w.alloc (.cells #[.string ⟨#[]⟩, .slice none 0 0, .int .i64 0, .int .i64 0] 51)).drew := ((Only.refl (fun _ => False) w).alloc _).drew
  have N0 := (Has.new w #[.string ⟨#[]⟩, .slice none 0 0, .int .i64 0, .int .i64 0] 51).keep ((Only.refl (fun _ => False) _).drew) (fun h => h)
  have N1 := N0.keep o5 (hX.st.new (Nat.le_refl _))
  have oA : Only q.S w w5 := (oZ.mono (fun _ _ e => e.elim)).trans o5 (fun _ _ e => e)
  have h := hX.turn h5 oA
  have oo : Only (fun k => k = w.heap.size) w5 ((((w5.setCell ⟨w.heap.size, 0, none⟩ v0).setCell ⟨w.heap.size, 1, none⟩ v1).setCell ⟨w.heap.size, 2, none⟩ v2).setCell ⟨w.heap.size, 3, none⟩ v3) := (((only1 _ _).trans (only1 _ _) (fun _ _ h => h)).trans (only1 _ _) (fun _ _ h => h)).trans (only1 _ _) (fun _ _ h => h)
  refine ⟨⟨N1.cell 0, N1.cell 1, N1.cell 2, N1.cell 3, N1.free 0, N1.free 1, N1.free 2, N1.free 3⟩, ⟨Nat.le_refl _, (((N1.setCell 0 v0).setCell 1 v1).setCell 2 v2).setCell 3 v3, h.far oo (fun k hk e => ?_), ?_⟩, ?_⟩
  · have := hX.blt hk
    have e' : k = w.heap.size := e
    omega
  · exact ((oA.mono (T := fun k => q.S k ∨ k = w.heap.size) (fun _ _ h => .inl h)).trans (oo.mono (T := fun k => q.S k ∨ k = w.heap.size) (fun _ _ h => .inr h)) (fun _ _ h => h)).mono (fun k hl h => h.elim id (fun e => by omega))
  · intro cv cols hc hn
    refine hc.keep oo (fun k hk e => ?_)
    have h1 := hn k hk
    have h2 := N0.lt
    have e' : k = w.heap.size := e
    omega
theorem noname {D : Db} (G : DGd D) : findD D ⟨#[]⟩ = none := by
  cases c : findD D ⟨#[]⟩ with
  | none => rfl
  | some t =>
    obtain ⟨h1, h2⟩ := findD_mem c
    have := (G.tb t h1).nm.1
    rw [h2] at this
    exact absurd this (by decide)
set_option maxRecDepth 100000 in
set_option maxHeartbeats 8000000 in
theorem xchkLocks_any (H : XR q w g x X op S) (L : Lay S T) (ok : XOk X (dbOf T)) : Calls Tryz.prog 91 #[.pointer (some ⟨g, 0, none⟩)] w fun e w' => e = .returned (.bool true) ∧ XR q w' g x X op S ∧ Only q.S w w' := by
  have HH := hide H
  have HLa := hide L
  have HOk := hide ok
  have HSn := hide (show ∀ k, w.heap.size ≤ k → ¬ q.S k from fun k hk => H.st.new hk)
  have HMd : Hid (∀ (wx : World) (kc i s : Nat) (b : Bool) (nm : ByteArray), s < 4 → Has wx kc #[.bool b, .string nm, .int .i64 (X.md i 0), .int .i64 (X.md i 1), .int .i64 (X.md i 2), .int .i64 (X.md i 3)] 90 → wx.cell? ⟨kc, 2 + s, none⟩ = some (.int .i64 (X.md i s))) := hide (fun wx kc i s b nm hs h => by
    rcases (show s = 0 ∨ s = 1 ∨ s = 2 ∨ s = 3 by omega) with rfl | rfl | rfl | rfl
    · exact h.cell 2
    · exact h.cell 3
    · exact h.cell 4
    · exact h.cell 5)
  clear H L ok
  go_enter Tryz.func91, Tryz.ntmps91
  go_upto_region 2 with fail
  go_loopw [3, 4, 5, 6, 7] (fun iv _ _ _ _ wr => ∃ i : Nat, iv = .int .i64 i ∧ i ≤ 3 ∧ XR q wr g x X op S ∧ Only q.S w wr) (fun iv _ _ _ _ _ => 4 - (intOf iv).toNat)
  case atStart => exact ⟨0, rfl, by omega, unhide HH, Only.refl _ w⟩
  case round =>
    obtain ⟨i, rfl, hi3, hx, ho⟩ := hrel
    by_cases hi : i < 3
    · have a1 : decide ((i : Int) < 3) = true := decide_eq_true (by omega)
      have i3 : (i : Int) < 3 := by omega
      have c0 := hx.xm.has.used hi
      have c1 := hx.xm.has.name hi
      have c2 : wr.cell? ⟨g, 5 + i * 6 + 2, none⟩ = some (.int .i64 (X.md i 0)) := hx.xm.has.mode hi (s := 0) (by omega)
      have c3 : wr.cell? ⟨g, 5 + i * 6 + 3, none⟩ = some (.int .i64 (X.md i 1)) := hx.xm.has.mode hi (s := 1) (by omega)
      have c4 : wr.cell? ⟨g, 5 + i * 6 + 4, none⟩ = some (.int .i64 (X.md i 2)) := hx.xm.has.mode hi (s := 2) (by omega)
      have c5 : wr.cell? ⟨g, 5 + i * 6 + 5, none⟩ = some (.int .i64 (X.md i 3)) := hx.xm.has.mode hi (s := 3) (by omega)
      have gl := hx.xm.has.lt
      obtain ⟨b, hb⟩ : ∃ B : Bool, X.us i = B := ⟨_, rfl⟩
      obtain ⟨nmi, hnm⟩ : ∃ n, X.nm i = n := ⟨_, rfl⟩
      rw [hb] at c0
      rw [hnm] at c1
      have o2 : Only (fun _ => False) wr (wr.alloc (.cells #[.bool b, .string nmi, .int .i64 (X.md i 0), .int .i64 (X.md i 1), .int .i64 (X.md i 2), .int .i64 (X.md i 3)] 90)) := (Only.refl _ wr).alloc _
      have N2 := Has.new wr #[.bool b, .string nmi, .int .i64 (X.md i 0), .int .i64 (X.md i 1), .int .i64 (X.md i 2), .int .i64 (X.md i 3)] 90
      have HNC := hide (show ¬ q.S wr.heap.size from hx.st.new (Nat.le_refl _))
      have HX2 := hide (hx.quiet o2)
      have HO2 := hide (ho.trans (o2.mono (T := q.S) (fun _ _ h => h.elim)) (fun _ _ h => h))
      have HN2 := hide N2
      have hbar : X.bar i (-1) 2 = b := by
        have h1 := (unhide HOk).lk.held i hi
        rw [hb] at h1
        cases b with
        | true =>
          obtain ⟨o, ho, hz⟩ := h1.mp rfl
          exact Xs.bar_yes ho ⟨by omega, .inr ⟨rfl, hz⟩⟩
        | false =>
          refine Xs.bar_no (fun o ho hb => ?_)
          have : X.md i o ≠ 0 := by
            rcases hb.2 with h | h
            · rw [h]; omega
            · exact h.2
          exact absurd (h1.mpr ⟨o, ho, this⟩) (by simp)
      have HB := hide hbar
      have HU := hide hb
      have HNm := hide hnm
      clear hx ho N2 hbar
      go_upto_region 5 with fail
      generalize wr.alloc (.cells #[.bool b, .string nmi, .int .i64 (X.md i 0), .int .i64 (X.md i 1), .int .i64 (X.md i 2), .int .i64 (X.md i 3)] 90) = w2 at *
      generalize hkc : wr.heap.size = kc at *
      have HMd := hide (fun wx s hs h => unhide HMd wx kc i s b nmi hs h)
      have p0 := (unhide HX2).xm.has.c0
      have gl2 := (unhide HX2).xm.has.lt
      have kl2 := (unhide HN2).lt
      have t1 : w2.cell? ⟨kc, 1, none⟩ = some (.string nmi) := (unhide HN2).cell 1
      clear hkc o2 c0 c1 c2 c3 c4 c5
      cases b with
      | false =>
        have he : nmi = ⟨#[]⟩ := by rw [← hnm]; exact (unhide HOk).lk.free i hi hb
        have HE := hide he
        have hfT : findD (dbOf T) nmi = none := by rw [he]; exact noname (unhide HOk).db
        clear hb hnm he
        have CA1 := hide (by have := eschemaOf_no ((unhide HX2).quiet ((Only.refl (fun _ => False) w2).drew)).st (unhide HLa) (find_none hfT); unfold scN at this; exact this)
        have CA2 := hide (by have := eschemaOf_no ((unhide HX2).quiet (((Only.refl (fun _ => False) w2).alloc (.cells #[.string ⟨#[]⟩, .slice none 0 0, .int .i64 0, .int .i64 0] 51)).drew)).st (unhide HLa) (find_none hfT); unfold scN at this; exact this)
        go_upto_region 5 with fail
        go_cut [5, 6] from 18 to 27 (fun kv ev wx => ∃ kb vs, kv = .pointer (some ⟨kb, 0, none⟩) ∧ ev = .int .i64 10 ∧ SoF q w2 g x X op S kb vs wx)
        case first =>
          go_region_with (go_at_call 142; first | (refine (unhide CA1).mono ?_; rintro e w5 ⟨rfl, h5, o5⟩; have HF2 := hide (show SoF q w2 g x X op S w5.heap.size #[.string ⟨#[]⟩, .slice none 0 0, .int .i64 0, .int .i64 (-1)] (w5.alloc (.cells #[.string ⟨#[]⟩, .slice none 0 0, .int .i64 0, .int .i64 (-1)] 51)) from so_first (unhide HX2) h5 o5 #[.string ⟨#[]⟩, .slice none 0 0, .int .i64 0, .int .i64 (-1)]); clear h5 o5) | (refine (unhide CA2).mono ?_; rintro e w5 ⟨rfl, h5, o5⟩; obtain ⟨⟨b0, b1, b2, b3, bf0, bf1, bf2, bf3⟩, hfin, hok⟩ := so_last (unhide HX2) h5 o5 (.string ⟨#[]⟩) (.slice none 0 0) (.int .i64 0) (.int .i64 (-1)); have HF2 := hide hfin; clear h5 o5 hfin hok))
          all_goals
            go_wp2_with fail
            go_meet
            exact ⟨_, _, rfl, rfl, unhide HF2⟩
        case rest =>
        obtain ⟨kb, vs, rfl, rfl, hkb, hNb, hx5, o5⟩ := hcut
        generalize wc = w5 at *
        have N5 := (unhide HN2).keep o5 (unhide HNC)
        have CB := xbarred_any ((hx5.quiet ((Only.refl (fun _ => False) w5).drew)).xm.has) hi (-1) 2
        rw [(unhide HB)] at CB
        have CB := hide CB
        have HX5 := hide hx5
        have HO5 := hide ((unhide HO2).trans o5 (fun _ _ h => h))
        have HN5 := hide N5
        have t0 : w5.cell? ⟨kc, 0, none⟩ = some (.bool false) := N5.cell 0
        have kl5 := N5.lt
        clear CA1 CA2 hNb hx5 o5 N5 HX2 HO2 HN2
        go_upto_region 6 with fail
        refine wp_region_held_drew (S := (fun w' => w'.cell? ⟨kc, 0, none⟩ = some (.bool false))) (by kernel_rfl) t0 (fun hH0 => ?_)
        refine takeH 0 28 (v := ?vn1) rfl rfl (by kernel_rfl) (by kernel_rfl) (by kernel_rfl) (fun _ _ _ h => h) (Or.inl ⟨by rfl, ?hn1⟩) hH0 ?rn1
        case hn1 => (intro w hSw; clear hSw; go_simp; (try with_reducible rfl))
        case rn1 =>
        try simp only [Act.put, List.setIfInBounds_toArray, List.set_cons_zero, List.set_cons_succ]
        refine takeH 1 29 (v := ?vn2) rfl rfl (by kernel_rfl) (by kernel_rfl) (by kernel_rfl) (fun _ _ _ h => h) (Or.inl ⟨by rfl, ?hn2⟩) hH0 ?rn2
        case hn2 => (intro w hSw; have s0 := hSw; clear hSw; go_simp; (try with_reducible rfl))
        case rn2 =>
        try simp only [Act.put, List.setIfInBounds_toArray, List.set_cons_zero, List.set_cons_succ]
        refine takeH 2 30 (v := ?vn3) rfl rfl (by kernel_rfl) (by kernel_rfl) (by kernel_rfl) (fun _ _ _ h => h) (Or.inl ⟨by rfl, ?hn3⟩) hH0 ?rn3
        case hn3 => (intro w hSw; clear hSw; go_simp; (try with_reducible rfl))
        case rn3 =>
        try simp only [Act.put, List.setIfInBounds_toArray, List.set_cons_zero, List.set_cons_succ]
        refine takeH 3 31 (v := ?vn4) rfl rfl (by kernel_rfl) (by kernel_rfl) (by kernel_rfl) (fun _ _ _ h => h) (Or.inl ⟨by rfl, ?hn4⟩) hH0 ?rn4
        case hn4 => (intro w hSw; clear hSw; go_simp; (try with_reducible rfl))
        case rn4 =>
        try simp only [Act.put, List.setIfInBounds_toArray, List.set_cons_zero, List.set_cons_succ]
        refine callH 4 (by kernel_rfl) rfl 32 rfl rfl 177 Tryz.func177 (by kernel_rfl) (by kernel_rfl) #[.tmp 30, .tmp 31, .const (.int .i64 (-1)), .const (.int .i64 2)] #[32, 3, 3, 3] rfl #[.pointer (some ⟨g, 0, none⟩), .int .i64 (i : Int), .int .i64 (-1), .int .i64 2] (by simp [Act.eval]) (R := fun v w' => v = .bool false ∧ Only (fun _ => False) w5.drew w') ((unhide CB).mono (by rintro en w' ⟨rfl, rfl⟩; exact ⟨_, rfl, rfl, Only.refl _ _⟩)) ?kn
        case kn =>
        rintro _ w6 ⟨rfl, o6⟩
        have S6 : w6.cell? ⟨kc, 0, none⟩ = some (.bool false) := o6.cellF hH0
        refine ⟨S6, ?_⟩
        try simp only [Act.put, List.setIfInBounds_toArray, List.set_cons_zero, List.set_cons_succ]
        refine takeH 5 33 (v := ?vn5) rfl rfl (by kernel_rfl) (by kernel_rfl) (by kernel_rfl) (fun _ _ _ h => h) (Or.inl ⟨by rfl, ?hn5⟩) S6 ?rn5
        case hn5 => (intro w hSw; clear hSw; go_simp; (try with_reducible rfl))
        case rn5 =>
        try simp only [Act.put, List.setIfInBounds_toArray, List.set_cons_zero, List.set_cons_succ]
        refine wpAnyH_done (by kernel_rfl) ?_ _
        have oD : Only (fun _ => False) w5 w6 := (Only.refl _ w5).drew.trans o6 (fun _ _ e => e)
        have HF := hide oD
        clear hH0 S6 o6 oD
        have HX6 := hide ((unhide HX5).quiet (unhide HF))
        have HO6 := hide ((unhide HO5).trans ((unhide HF).mono (T := q.S) (fun _ _ h => h.elim)) (fun _ _ h => h))
        have N6 := (unhide HN5).keep (unhide HF) (fun h => h)
        have HN6 := hide N6
        have kl6 := N6.lt
        have gl6 := (unhide HX6).xm.has.lt
        have u0 : w6.cell? ⟨kc, 0, none⟩ = some (.bool false) := N6.cell 0
        have u1 : w6.cell? ⟨kc, 1, none⟩ = some (.string nmi) := N6.cell 1
        clear N6 HF HX5 HO5 HN5 CB t0
        have e1 : nmi.toList.isEmpty = true := by rw [unhide HE, ls_toList]; rfl
        go_upto_region 13 with fail
        clear u0 u1
        go_loop [7] (fun jv => ∃ s : Nat, jv = .int .i64 s ∧ s ≤ 4) (fun jv => 5 - (intOf jv).toNat)
        case atStart => exact ⟨0, rfl, by omega⟩
        case round =>
          obtain ⟨s, rfl, hs⟩ := hrel
          by_cases hs4 : s < 4
          · have a3 : decide ((s : Int) < 4) = true := decide_eq_true (by omega)
            have s4 : (s : Int) < 4 := by omega
            have m0 := unhide HMd w6 s hs4 (unhide HN6)
            have act := (unhide HX6).xm.has.act hs4
            obtain ⟨r1, r2⟩ := (unhide HOk).lk.rng i s hi hs4
            obtain ⟨m, hm⟩ : ∃ m, X.md i s = m := ⟨_, rfl⟩
            rw [hm] at m0 r1 r2
            have d1 : decide (m < 0) = false := decide_eq_false (by omega)
            have d2 : decide (m > 2) = false := decide_eq_false (by omega)
            have d2' : decide (2 < m) = false := decide_eq_false (by omega)
            by_cases hm0 : m = 0
            · subst hm0
              clear act hm
              go_wp2_with fail
              go_round
              case rel => exact ⟨s + 1, by go_num, by omega⟩
              case measure => simp [intOf]; omega
            · have dm : (m != 0) = true := by simpa using hm0
              have dm' : (m == 0) = false := ne_intO hm0
              have hact := (unhide HOk).lk.act i s hi hs4 (by rw [hm]; exact hm0)
              rw [hact] at act
              have CC := xbarred_any (unhide HX6).xm.has hi (s : Int) m
              rw [show X.bar i (s : Int) m = false from Xs.bar_no (fun o ho hb => by
                have h1 : o ≠ s := fun e => hb.1 (by rw [e])
                rcases hb.2 with h2 | ⟨h2, h3⟩
                · have := (unhide HOk).lk.excl i o s hi ho hs4 h1 h2
                  rw [hm] at this
                  exact hm0 this
                · exact h3 ((unhide HOk).lk.excl i s o hi hs4 ho (fun e => h1 e.symm) (by rw [hm]; exact h2)))] at CC
              have CC := hide CC
              clear hact hm hm0
              go_wp2_with fail
              refine (unhide CC).mono ?_
              rintro e w8 ⟨rfl, rfl⟩
              clear CC
              go_wp2_with fail
              go_round
              case rel => exact ⟨s + 1, by go_num, by omega⟩
              case measure => simp [intOf]; omega
          · obtain rfl : s = 4 := by omega
            go_wp2_with fail
            go_roundw
            case rel => exact ⟨i + 1, by go_num, by omega, unhide HX6, unhide HO6⟩
            case measure => simp [intOf]; omega
      | true =>
        obtain ⟨t0, ht, hnt⟩ := (unhide HOk).lk.tab i hi hb
        rw [hnm] at hnt
        obtain ⟨⟨t, hd⟩, hmT, e2⟩ := List.mem_map.mp ht
        have hnT : t.nm = nmi := by have e3 : t = t0 := e2; rw [e3]; exact hnt
        clear e2
        clear hb hnm ht hnt
        have CA1 := hide (by have := eschemaOf_yes ((unhide HX2).quiet ((Only.refl (fun _ => False) w2).drew)).st (unhide HLa) hmT; rw [hnT] at this; unfold scC at this; exact this)
        have CA2 := hide (by have := eschemaOf_yes ((unhide HX2).quiet (((Only.refl (fun _ => False) w2).alloc (.cells #[.string ⟨#[]⟩, .slice none 0 0, .int .i64 0, .int .i64 0] 51)).drew)).st (unhide HLa) hmT; rw [hnT] at this; unfold scC at this; exact this)
        go_upto_region 5 with fail
        go_cut [5, 6] from 18 to 27 (fun kv ev wx => ∃ kb vs, kv = .pointer (some ⟨kb, 0, none⟩) ∧ ev = .int .i64 0 ∧ SoF q w2 g x X op S kb vs wx)
        case first =>
          go_region_with (go_at_call 142; first | (refine (unhide CA1).mono ?_; rintro e w5 ⟨cv, rfl, hc5, hn5, h5, o5⟩; obtain ⟨ca, cc, rfl⟩ := hc5.shape; have cl5 := hc5.lt; have HF2 := hide (show SoF q w2 g x X op S w5.heap.size #[.string nmi, .slice ca t.cols.length cc, .int .i64 (t.pk : Int), .int .i64 (ixI t.ix)] (w5.alloc (.cells #[.string nmi, .slice ca t.cols.length cc, .int .i64 (t.pk : Int), .int .i64 (ixI t.ix)] 51)) from so_first (unhide HX2) h5 o5 #[.string nmi, .slice ca t.cols.length cc, .int .i64 (t.pk : Int), .int .i64 (ixI t.ix)]); have HC2 := hide (hc5.keep ((Only.refl (fun _ => False) w5).alloc (.cells #[.string nmi, .slice ca t.cols.length cc, .int .i64 (t.pk : Int), .int .i64 (ixI t.ix)] 51)) (fun _ _ h => h)); clear h5 o5 hc5 hn5) | (refine (unhide CA2).mono ?_; rintro e w5 ⟨cv, rfl, hc5, hn5, h5, o5⟩; obtain ⟨ca, cc, rfl⟩ := hc5.shape; have cl5 := hc5.lt; obtain ⟨⟨b0, b1, b2, b3, bf0, bf1, bf2, bf3⟩, hfin, hok⟩ := so_last (unhide HX2) h5 o5 (.string nmi) (.slice ca t.cols.length cc) (.int .i64 (t.pk : Int)) (.int .i64 (ixI t.ix)); have HF2 := hide hfin; have HC2 := hide (hok hc5 hn5); clear h5 o5 hfin hok hc5 hn5))
          all_goals
            go_wp2_with fail
            go_meet
            exact ⟨_, _, rfl, rfl, unhide HF2⟩
        case rest =>
        obtain ⟨kb, vs, rfl, rfl, hkb, hNb, hx5, o5⟩ := hcut
        generalize wc = w5 at *
        have N5 := (unhide HN2).keep o5 (unhide HNC)
        have CB := xbarred_any ((hx5.quiet ((Only.refl (fun _ => False) w5).drew)).xm.has) hi (-1) 2
        rw [(unhide HB)] at CB
        have CB := hide CB
        have HX5 := hide hx5
        have HO5 := hide ((unhide HO2).trans o5 (fun _ _ h => h))
        have HN5 := hide N5
        have t0 : w5.cell? ⟨kc, 0, none⟩ = some (.bool true) := N5.cell 0
        have kl5 := N5.lt
        clear CA1 CA2 hNb hx5 o5 N5 HX2 HO2 HN2
        go_upto_region 6 with fail
        refine wp_region_held_drew (S := (fun w' => w'.cell? ⟨kc, 0, none⟩ = some (.bool true))) (by kernel_rfl) t0 (fun hH0 => ?_)
        refine takeH 0 28 (v := ?vy1) rfl rfl (by kernel_rfl) (by kernel_rfl) (by kernel_rfl) (fun _ _ _ h => h) (Or.inl ⟨by rfl, ?hy1⟩) hH0 ?ry1
        case hy1 => (intro w hSw; clear hSw; go_simp; (try with_reducible rfl))
        case ry1 =>
        try simp only [Act.put, List.setIfInBounds_toArray, List.set_cons_zero, List.set_cons_succ]
        refine takeH 1 29 (v := ?vy2) rfl rfl (by kernel_rfl) (by kernel_rfl) (by kernel_rfl) (fun _ _ _ h => h) (Or.inl ⟨by rfl, ?hy2⟩) hH0 ?ry2
        case hy2 => (intro w hSw; have s0 := hSw; clear hSw; go_simp; (try with_reducible rfl))
        case ry2 =>
        try simp only [Act.put, List.setIfInBounds_toArray, List.set_cons_zero, List.set_cons_succ]
        refine takeH 2 30 (v := ?vy3) rfl rfl (by kernel_rfl) (by kernel_rfl) (by kernel_rfl) (fun _ _ _ h => h) (Or.inl ⟨by rfl, ?hy3⟩) hH0 ?ry3
        case hy3 => (intro w hSw; clear hSw; go_simp; (try with_reducible rfl))
        case ry3 =>
        try simp only [Act.put, List.setIfInBounds_toArray, List.set_cons_zero, List.set_cons_succ]
        refine takeH 3 31 (v := ?vy4) rfl rfl (by kernel_rfl) (by kernel_rfl) (by kernel_rfl) (fun _ _ _ h => h) (Or.inl ⟨by rfl, ?hy4⟩) hH0 ?ry4
        case hy4 => (intro w hSw; clear hSw; go_simp; (try with_reducible rfl))
        case ry4 =>
        try simp only [Act.put, List.setIfInBounds_toArray, List.set_cons_zero, List.set_cons_succ]
        refine callH 4 (by kernel_rfl) rfl 32 rfl rfl 177 Tryz.func177 (by kernel_rfl) (by kernel_rfl) #[.tmp 30, .tmp 31, .const (.int .i64 (-1)), .const (.int .i64 2)] #[32, 3, 3, 3] rfl #[.pointer (some ⟨g, 0, none⟩), .int .i64 (i : Int), .int .i64 (-1), .int .i64 2] (by simp [Act.eval]) (R := fun v w' => v = .bool true ∧ Only (fun _ => False) w5.drew w') ((unhide CB).mono (by rintro en w' ⟨rfl, rfl⟩; exact ⟨_, rfl, rfl, Only.refl _ _⟩)) ?ky
        case ky =>
        rintro _ w6 ⟨rfl, o6⟩
        have S6 : w6.cell? ⟨kc, 0, none⟩ = some (.bool true) := o6.cellF hH0
        refine ⟨S6, ?_⟩
        try simp only [Act.put, List.setIfInBounds_toArray, List.set_cons_zero, List.set_cons_succ]
        refine takeH 5 33 (v := ?vy5) rfl rfl (by kernel_rfl) (by kernel_rfl) (by kernel_rfl) (fun _ _ _ h => h) (Or.inl ⟨by rfl, ?hy5⟩) S6 ?ry5
        case hy5 => (intro w hSw; clear hSw; go_simp; (try with_reducible rfl))
        case ry5 =>
        try simp only [Act.put, List.setIfInBounds_toArray, List.set_cons_zero, List.set_cons_succ]
        refine wpAnyH_done (by kernel_rfl) ?_ _
        have oD : Only (fun _ => False) w5 w6 := (Only.refl _ w5).drew.trans o6 (fun _ _ e => e)
        have HF := hide oD
        clear hH0 S6 o6 oD
        have HX6 := hide ((unhide HX5).quiet (unhide HF))
        have HO6 := hide ((unhide HO5).trans ((unhide HF).mono (T := q.S) (fun _ _ h => h.elim)) (fun _ _ h => h))
        have N6 := (unhide HN5).keep (unhide HF) (fun h => h)
        have HN6 := hide N6
        have kl6 := N6.lt
        have gl6 := (unhide HX6).xm.has.lt
        have u0 : w6.cell? ⟨kc, 0, none⟩ = some (.bool true) := N6.cell 0
        have u1 : w6.cell? ⟨kc, 1, none⟩ = some (.string nmi) := N6.cell 1
        clear N6 HF HX5 HO5 HN5 CB t0
        have CS := xslotOf_any (unhide HX6).xm.has nmi
        have CS := hide CS
        go_wp2_with fail
        refine (unhide CS).mono ?_
        rintro e w7 ⟨r, rfl, hr, rfl⟩
        obtain rfl : r = (i : Int) := by
          have hbi : X.bears nmi i := ⟨unhide HU, unhide HNm⟩
          rcases hr with ⟨_, hn⟩ | ⟨j, hj, rfl, hb, _⟩
          · exact absurd hbi (hn i hi)
          · have := (unhide HOk).lk.one j i hj hi hb.1 hbi.1 (by rw [hb.2, hbi.2])
            rw [this]
        have rz : ((i : Int) == (i : Int)) = true := by simp
        clear CS hr
        go_upto_region 13 with fail
        clear u0 u1
        go_loop [7] (fun jv => ∃ s : Nat, jv = .int .i64 s ∧ s ≤ 4) (fun jv => 5 - (intOf jv).toNat)
        case atStart => exact ⟨0, rfl, by omega⟩
        case round =>
          obtain ⟨s, rfl, hs⟩ := hrel
          by_cases hs4 : s < 4
          · have a3 : decide ((s : Int) < 4) = true := decide_eq_true (by omega)
            have s4 : (s : Int) < 4 := by omega
            have m0 := unhide HMd w6 s hs4 (unhide HN6)
            have act := (unhide HX6).xm.has.act hs4
            obtain ⟨r1, r2⟩ := (unhide HOk).lk.rng i s hi hs4
            obtain ⟨m, hm⟩ : ∃ m, X.md i s = m := ⟨_, rfl⟩
            rw [hm] at m0 r1 r2
            have d1 : decide (m < 0) = false := decide_eq_false (by omega)
            have d2 : decide (m > 2) = false := decide_eq_false (by omega)
            have d2' : decide (2 < m) = false := decide_eq_false (by omega)
            by_cases hm0 : m = 0
            · subst hm0
              clear act hm
              go_wp2_with fail
              go_round
              case rel => exact ⟨s + 1, by go_num, by omega⟩
              case measure => simp [intOf]; omega
            · have dm : (m != 0) = true := by simpa using hm0
              have dm' : (m == 0) = false := ne_intO hm0
              have hact := (unhide HOk).lk.act i s hi hs4 (by rw [hm]; exact hm0)
              rw [hact] at act
              have CC := xbarred_any (unhide HX6).xm.has hi (s : Int) m
              rw [show X.bar i (s : Int) m = false from Xs.bar_no (fun o ho hb => by
                have h1 : o ≠ s := fun e => hb.1 (by rw [e])
                rcases hb.2 with h2 | ⟨h2, h3⟩
                · have := (unhide HOk).lk.excl i o s hi ho hs4 h1 h2
                  rw [hm] at this
                  exact hm0 this
                · exact h3 ((unhide HOk).lk.excl i s o hi hs4 ho (fun e => h1 e.symm) (by rw [hm]; exact h2)))] at CC
              have CC := hide CC
              clear hact hm hm0
              go_wp2_with fail
              refine (unhide CC).mono ?_
              rintro e w8 ⟨rfl, rfl⟩
              clear CC
              go_wp2_with fail
              go_round
              case rel => exact ⟨s + 1, by go_num, by omega⟩
              case measure => simp [intOf]; omega
          · obtain rfl : s = 4 := by omega
            go_wp2_with fail
            go_roundw
            case rel => exact ⟨i + 1, by go_num, by omega, unhide HX6, unhide HO6⟩
            case measure => simp [intOf]; omega
    · obtain rfl : i = 3 := by omega
      have FF := hide (And.intro hx ho)
      clear hx ho
      go_wp2_with fail
      go_ret
      exact ⟨rfl, unhide FF⟩
end
end Go.Proofs.Qxb6500414aGreat
