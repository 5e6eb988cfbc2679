/-
  OWN WORK. THE MODEL walm.Log: what writes it.
-/
import Derived.Test.Qxb6500415aMLog
import Derived.Deep.RegionWith
namespace Go.Proofs.Qxb6500415a
open Go.RowKit
set_option linter.unusedSimpArgs false
set_option linter.unusedVariables false
section
variable {w : World} {m : Nat} {com cur : List ByteArray} {dirty : List Bool} {n : Nat} {op : Bool} {base : List ByteArray} {hist : Option (List ByteArray)} {F : Nat → Prop}

theorem HistAt.ne {hv : Value} {b1 : Nat} (h : HistAt w hv b1 F hist) {j : Nat} {c : Array Value} {t : TypeId} (hj : Has w j c t) (ht : 40 ≠ t) : ∀ k, hv.ownBlock = some k → k ≠ j := by
  obtain ⟨n, xs, ho, _⟩ := h.own
  exact ownsRow_ne ho hj ht

theorem HistAt.shape {hv : Value} {b1 : Nat} (h : HistAt w hv b1 F hist) : ∃ a cap, hv = .slice a (histLen hist) cap := by
  obtain ⟨n, xs, ho, rfl⟩ := h.own
  exact ownsRow_shape ho

theorem HistAt.setOther {hv : Value} {b1 : Nat} (h : HistAt w hv b1 F hist) {p : Addr} {c : Array Value} {t : TypeId} (hp : Has w p.block c t) (ht : 40 ≠ t) (hb : t = 60 → p.block = b1) (u : Value) : HistAt (w.setCell p u) hv b1 F hist := by
  have ho : Only (fun k => k = p.block) w (w.setCell p u) := (Only.refl (fun k => k = p.block) w).setCell (fun _ => rfl) u
  refine h.keep' ho (h.ne hp ht) ?_
  intro k c' hk hkb e
  subst e
  have := (hk.inj hp).2
  exact hkb (hb this.symm)

theorem HistAt.alloc {hv : Value} {b1 : Nat} (h : HistAt w hv b1 F hist) (o : Obj) : HistAt (w.alloc o) hv b1 F hist :=
  h.keep' (S := fun _ => False) ((Only.refl _ w).alloc o) (fun _ _ h => h) (fun _ _ _ _ h => h)

theorem mbegin_open (h : MLogAt w m com cur dirty n true base hist F) :
    Calls Try.prog 77 #[.pointer (some ⟨m, 0, none⟩)] w fun e w' => e = .returned (.int .i64 3) ∧ w = w' := by
  obtain ⟨⟨b0, b1, b2, b5, hv, h1, _⟩, _⟩ := h
  have c := h1.cell 4
  go_enter Try.func77, Try.ntmps77
  go_wp2
  go_ret
  exact ⟨rfl, rfl⟩

theorem mbegin_shut (h : MLogAt w m com cur dirty n false base hist F) :
    Calls Try.prog 77 #[.pointer (some ⟨m, 0, none⟩)] w fun e w' => e = .returned (.int .i64 0) ∧ MLogAt w' m com cur dirty n true base hist F ∧ Only F w w' := by
  obtain ⟨⟨b0, b1, b2, b5, hv, h1, h2, h3, h4, h5, h6, n0, n5, f, f0, f1, f2, f5, fh⟩, l0, l1, l2, l5, hi⟩ := h
  have c := h1.cell 4
  have z := h1.free 4
  obtain ⟨a, cap, hsh⟩ := h6.shape
  go_enter Try.func77, Try.ntmps77
  go_wp2
  go_ret
  refine ⟨rfl, ⟨⟨b0, b1, b2, b5, hv, ?_, h2.setCell_other (h1.ne h2 (by decide)).symm _, h3.setCell_other (h1.ne h3 (by decide)).symm _, h4.setCell_other (h1.ne h4 (by decide)).symm _, h5.setCell_other (h1.ne h5 (by decide)).symm _, h6.setOther (p := ⟨m, 4, none⟩) h1 (by decide) (fun e => absurd e (by decide)) _, n0, n5, f, f0, f1, f2, f5, fh⟩, l0, l1, l2, l5, fun k hk => by simpa using hi k hk⟩, (Only.refl F w).setCell (fun _ => f) _⟩
  simpa using h1.setCell 4 (.bool true)

theorem mwrite_shut (h : MLogAt w m com cur dirty n false base hist F) (b : Int) (x : ByteArray) :
    Calls Try.prog 78 #[.pointer (some ⟨m, 0, none⟩), .int .i64 b, .string x] w fun e w' => e = .returned (.int .i64 2) ∧ w = w' := by
  obtain ⟨⟨b0, b1, b2, b5, hv, h1, _⟩, _⟩ := h
  have c := h1.cell 4
  go_enter Try.func78, Try.ntmps78
  go_wp2_with fail
  go_ret
  exact ⟨rfl, rfl⟩

theorem mwrite_bad (h : MLogAt w m com cur dirty n true base hist F) (b : Int) (x : ByteArray) (hb : ¬ (0 ≤ b ∧ b < 80)) :
    Calls Try.prog 78 #[.pointer (some ⟨m, 0, none⟩), .int .i64 b, .string x] w fun e w' => e = .returned (.int .i64 1) ∧ w = w' := by
  obtain ⟨⟨b0, b1, b2, b5, hv, h1, _⟩, _⟩ := h
  have c := h1.cell 4
  by_cases h0 : b < 0
  · have h0' : decide (b < 0) = true := by simpa using h0
    go_enter Try.func78, Try.ntmps78
    go_wp2_with fail
    go_ret
    exact ⟨rfl, rfl⟩
  · have h0' : decide (b < 0) = false := by simpa using h0
    have h8 : 80 ≤ b := by omega
    go_enter Try.func78, Try.ntmps78
    go_wp2_with fail
    go_ret
    exact ⟨rfl, rfl⟩

theorem mwrite_full (h : MLogAt w m com cur dirty n true base hist F) (b : Nat) (x : ByteArray) (hb : b < 80) (hd : dirty.getD b false = false) (hn : n = 72) :
    Calls Try.prog 78 #[.pointer (some ⟨m, 0, none⟩), .int .i64 b, .string x] w fun e w' => e = .returned (.int .i64 4) ∧ w = w' := by
  obtain ⟨⟨b0, b1, b2, b5, hv, h1, h2, h3, h4, _⟩, l0, l1, l2, _⟩ := h
  have c2 := h1.cell 2
  have c3 := h1.cell 3
  have c4 := h1.cell 4
  have p := h4.cell b
  rw [bools_get _ _ (by omega)] at p
  have e1 : dirty.getD b false = dirty[b] := by simp [List.getD_eq_getElem?_getD, l2, hb]
  rw [e1] at hd
  rw [hd] at p
  subst hn
  have hneg : decide ((b : Int) < 0) = false := by simp
  have hge : decide (80 ≤ (b : Int)) = false := by simp; omega
  have hb8 : (b : Int) < 80 := by omega
  clear e1 hd
  go_enter Try.func78, Try.ntmps78
  go_wp2_with fail
  go_ret
  exact ⟨rfl, rfl⟩

set_option maxRecDepth 100000 in
set_option maxHeartbeats 1000000 in
theorem mwrite_old (h : MLogAt w m com cur dirty n true base hist F) (b : Nat) (x : ByteArray) (hb : b < 80) (hd : dirty.getD b false = true) (hx : x.size ≤ maxLen) :
    Calls Try.prog 78 #[.pointer (some ⟨m, 0, none⟩), .int .i64 b, .string x] w fun e w' => e = .returned (.int .i64 0) ∧ MLogAt w' m com (cur.set b (blockOf x)) dirty n true base hist F ∧ Only F w w' := by
  obtain ⟨⟨b0, b1, b2, b5, hv, h1, h2, h3, h4, h5, h6, n0, n5, f, f0, f1, f2, f5, fh⟩, l0, l1, l2, l5, hi⟩ := h
  have c1 := h1.cell 1
  have c2 := h1.cell 2
  have c4 := h1.cell 4
  have p := h4.cell b
  rw [bools_get _ _ (by omega)] at p
  have e1 : dirty.getD b false = dirty[b] := by simp [List.getD_eq_getElem?_getD, l2, hb]
  rw [e1] at hd
  rw [hd] at p
  have q := h3.cell b
  rw [strs_get _ _ (by omega)] at q
  have z := h3.free b
  have hneg : decide ((b : Int) < 0) = false := by simp
  have hge : decide (80 ≤ (b : Int)) = false := by simp; omega
  have hb8 : (b : Int) < 80 := by omega
  clear e1 hd
  go_enter Try.func78, Try.ntmps78
  go_wp2_with fail
  go_region_with (go_at_call 41; refine (blockOf_any x _ hx).mono ?_; rintro e w' ⟨rfl, rfl⟩)
  all_goals
    go_wp2_with fail
    go_ret
    refine ⟨rfl, ⟨⟨b0, b1, b2, b5, hv, h1.setCell_other (h1.ne h3 (by decide)) _, h2.setCell_other n0 _, ?_, h4.setCell_other (h4.ne h3 (by decide)) _, h5.setCell_other n5 _, ?_, n0, n5, f, f0, f1, f2, f5, fh⟩, l0, by simpa using l1, l2, l5, fun k hk => by simpa using hi k hk⟩, ((Only.refl F w).setCell (fun _ => f1) _).drew⟩
    · have := (h3.setCell b (.string (blockOf x))).drew
      rw [strs_set] at this
      exact this
    · exact h6.setOther (p := ⟨b1, b, none⟩) h3 (by decide) (fun _ => rfl) _

set_option maxRecDepth 100000 in
set_option maxHeartbeats 1000000 in
theorem mwrite_new (h : MLogAt w m com cur dirty n true base hist F) (b : Nat) (x : ByteArray) (hb : b < 80) (hd : dirty.getD b false = false) (hn : n < 72) (hx : x.size ≤ maxLen) :
    Calls Try.prog 78 #[.pointer (some ⟨m, 0, none⟩), .int .i64 b, .string x] w fun e w' => e = .returned (.int .i64 0) ∧ MLogAt w' m com (cur.set b (blockOf x)) (dirty.set b true) (n + 1) true base hist F ∧ Only F w w' := by
  obtain ⟨⟨b0, b1, b2, b5, hv, h1, h2, h3, h4, h5, h6, n0, n5, f, f0, f1, f2, f5, fh⟩, l0, l1, l2, l5, hi⟩ := h
  have c1 := h1.cell 1
  have c2 := h1.cell 2
  have c3 := h1.cell 3
  have c4 := h1.cell 4
  have z3 := h1.free 3
  have p := h4.cell b
  rw [bools_get _ _ (by omega)] at p
  have pz := h4.free b
  have e1 : dirty.getD b false = dirty[b] := by simp [List.getD_eq_getElem?_getD, l2, hb]
  rw [e1] at hd
  rw [hd] at p
  have q := h3.cell b
  rw [strs_get _ _ (by omega)] at q
  have z := h3.free b
  have hneg : decide ((b : Int) < 0) = false := by simp
  have hge : decide (80 ≤ (b : Int)) = false := by simp; omega
  have hb8 : (b : Int) < 80 := by omega
  have hn7 : (n : Int) < 72 := by omega
  have m3 := h1.ne h3 (by decide)
  have m4 := h1.ne h4 (by decide)
  have m43 := h4.ne h3 (by decide)
  have m2 := h1.ne h2 (by decide)
  have m5 := h1.ne h5 (by decide)
  have m42 := h4.ne h2 (by decide)
  have m45 := h4.ne h5 (by decide)
  clear e1 hd
  go_enter Try.func78, Try.ntmps78
  go_wp2_with fail
  go_region_with (go_at_call 41; refine (blockOf_any x _ hx).mono ?_; rintro e w' ⟨rfl, rfl⟩)
  all_goals
    go_wp2_with fail
    go_ret
    have k1 := h1.setCell_other (p := ⟨b2, b, none⟩) m4 (.bool true)
    have k3 := h3.setCell_other (p := ⟨b2, b, none⟩) m43.symm (.bool true)
    have i3 := k3.setCell_other (p := ⟨m, 3, none⟩) m3.symm (.int .i64 ((n : Int) + 1))
    refine ⟨rfl, ⟨⟨b0, b1, b2, b5, hv, ?_, ?_, ?_, ?_, ?_, ?_, n0, n5, f, f0, f1, f2, f5, fh⟩, l0, by simpa using l1, by simpa using l2, l5, fun k hk => by simpa using hi k hk⟩, ((((Only.refl F w).setCell (fun _ => f2) _).setCell (fun _ => f) _).setCell (fun _ => f1) _).drew⟩
    · have := ((k1.setCell 3 (.int .i64 ((n : Int) + 1))).setCell_other (p := ⟨b1, b, none⟩) m3 (.string (blockOf x))).drew
      simpa using this
    · exact (((h2.setCell_other (p := ⟨b2, b, none⟩) m42.symm (.bool true)).setCell_other (p := ⟨m, 3, none⟩) m2.symm (.int .i64 ((n : Int) + 1))).setCell_other (p := ⟨b1, b, none⟩) n0 (.string (blockOf x))).drew
    · have := (i3.setCell b (.string (blockOf x))).drew
      rw [strs_set] at this
      exact this
    · have := (((h4.setCell b (.bool true)).setCell_other (p := ⟨m, 3, none⟩) m4.symm (.int .i64 ((n : Int) + 1))).setCell_other (p := ⟨b1, b, none⟩) m43 (.string (blockOf x))).drew
      rw [bools_set] at this
      exact this
    · exact (((h5.setCell_other (p := ⟨b2, b, none⟩) m45.symm (.bool true)).setCell_other (p := ⟨m, 3, none⟩) m5.symm (.int .i64 ((n : Int) + 1))).setCell_other (p := ⟨b1, b, none⟩) n5 (.string (blockOf x))).drew
    · exact ((h6.setOther (p := ⟨b2, b, none⟩) h4 (by decide) (fun e => absurd e (by decide)) (.bool true)).setOther (p := ⟨m, 3, none⟩) k1 (by decide) (fun e => absurd e (by decide)) (.int .i64 ((n : Int) + 1))).setOther (p := ⟨b1, b, none⟩) i3 (by decide) (fun _ => rfl) (.string (blockOf x))

end
end Go.Proofs.Qxb6500415a
