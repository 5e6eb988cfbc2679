/-
  OWN WORK. THE OBJECT LAW: below.go, Play, Due, Seen.
-/
import Derived.Test.Qxb6500419aOL3
import Derived.Test.Qxb6500419aOpsDef
namespace Go.Proofs.Qxb6500419a
open Go.RowKit
set_option linter.unusedSimpArgs false
set_option linter.unusedVariables false

theorem ne_intL {a b : Int} (h : a ≠ b) : (a == b) = false := by simpa using h

set_option maxRecDepth 100000 in
theorem olground_any (w : World) :
    Calls Try.prog 8 #[] w fun e w' => ∃ d, e = .returned (.agg #[.pointer (some ⟨d, 0, none⟩)]) ∧ DevAt w' d (fun _ => 0) (fun _ => 0) [] (Ext (fun _ => False) w w') ∧ Only (fun _ => False) w w' := by
  go_enter Try.func8, Try.ntmps8
  go_wp2_with fail
  refine (dvnew_any _).mono ?_
  rintro e w1 ⟨rfl, hd1, ho1⟩
  have s1 := ho1.size
  simp only [World.size_alloc] at s1 hd1
  have k1 := (Has.new w #[.pointer none] 29).keep ho1 (fun h => h)
  have c0 := k1.cell 0
  have z0 := k1.free 0
  have k2 := k1.setCell 0 (.pointer (some ⟨w.heap.size + 1, 0, none⟩))
  have q0 := k2.cell 0
  have o2 : Only (fun k => k = w.heap.size) w1 (w1.setCell ⟨w.heap.size, 0, none⟩ (.pointer (some ⟨w.heap.size + 1, 0, none⟩))) := (Only.refl (fun k => k = w.heap.size) w1).setCell (p := ⟨w.heap.size, 0, none⟩) (fun _ => rfl) _
  simp at q0
  go_wp2_with fail
  refine bodyPost_ret (v := .agg #[.pointer (some ⟨w.heap.size + 1, 0, none⟩)]) (by simp [results, Try.results8, go_sem, q0]) rfl ⟨_, rfl, ?_, ?_⟩
  · refine (hd1.keep o2 (fun k hk e => ?_)).mono (fun k hk => ?_) (fun k hk => ?_)
    · subst e
      rcases hk with hk | hk
      · exact hk
      · simp at hk; omega
    · rcases hk with hk | hk
      · exact hk.elim
      · simp at hk
        exact .inr ⟨by omega, by simpa using hk.2⟩
    · rcases hk with hk | hk
      · exact hk.elim
      · exact hk.2
  · exact (((Only.refl _ w).alloc _).trans ho1 (fun _ _ h => h)).trans o2 (fun i hi e => by omega)

section
variable {w : World} {s d m : Nat} {D B : Nat → Nat} {recs : List Rec} {ob ob' : Nat → Ob} {rt rt' : Nat} {hist : Value} {F H : Nat → Prop}

set_option maxRecDepth 100000 in
theorem olsteps_any (hd : DevAt w d D B recs F) :
    Calls Try.prog 12 #[.agg #[.pointer (some ⟨d, 0, none⟩)]] w fun e w' => e = .returned (.int .i64 recs.length) ∧ Only (fun _ => False) w w' := by
  have o1 : Only (fun _ => False) w (w.alloc (.cells #[.pointer (some ⟨d, 0, none⟩)] 29)) := (Only.refl _ w).alloc _
  have C1 := hide (dvsteps_any (hd.quiet o1))
  go_enter Try.func12, Try.ntmps12
  go_wp2_with fail
  refine (unhide C1).mono ?_
  rintro e w1 ⟨rfl, rfl⟩
  go_wp2_with fail
  go_ret
  exact ⟨rfl, o1⟩

set_option maxRecDepth 100000 in
theorem olmark_any (hd : DevAt w d D B recs F) :
    Calls Try.prog 14 #[.agg #[.pointer (some ⟨d, 0, none⟩)]] w fun e w' => e = .returned (.tuple #[]) ∧ DevAt w' d D D [] F ∧ Only F w w' := by
  have o1 : Only (fun _ => False) w (w.alloc (.cells #[.pointer (some ⟨d, 0, none⟩)] 29)) := (Only.refl _ w).alloc _
  have C1 := hide (dvmark_any (hd.quiet o1))
  go_enter Try.func14, Try.ntmps14
  go_wp2_with fail
  refine (unhide C1).mono ?_
  rintro e w1 ⟨rfl, hd1, ho1⟩
  go_wp2_with fail
  go_end0
  exact ⟨rfl, hd1, (o1.mono (fun _ _ h => h.elim)).trans ho1 (fun _ _ h => h)⟩

set_option maxRecDepth 100000 in
theorem olafter_any (hd : DevAt w d D B recs F) (kk : Int) (hkeys : ∀ r ∈ recs, r.1 < 145) (hrl : recs.length ≤ 1000) :
    Calls Try.prog 19 #[.agg #[.pointer (some ⟨d, 0, none⟩)], .int .i64 kk] w fun e w' => ∃ d' F', e = .returned (.agg #[.pointer (some ⟨d', 0, none⟩)]) ∧ DevAt w' d' (replayB B (recs.take kk.toNat)) (replayB B (recs.take kk.toNat)) [] F' ∧ (∀ k, F' k → w.heap.size ≤ k) ∧ Only (fun _ => False) w w' := by
  have o1 : Only (fun _ => False) w ((w.alloc (.cells #[.pointer (some ⟨d, 0, none⟩)] 29)).alloc (.cells #[.pointer none] 29)) := ((Only.refl _ w).alloc _).alloc _
  have C1 := hide (dvafter_any (hd.quiet o1) kk hkeys hrl)
  have kk1 : Has ((w.alloc (.cells #[.pointer (some ⟨d, 0, none⟩)] 29)).alloc (.cells #[.pointer none] 29)) (w.heap.size + 1) #[.pointer none] 29 := Has.new' _ _ _ _ (by simp)
  generalize replayB B (recs.take kk.toNat) = D0 at *
  have hsz : ((w.alloc (.cells #[.pointer (some ⟨d, 0, none⟩)] 29)).alloc (.cells #[.pointer none] 29)).heap.size = w.heap.size + 1 + 1 := by simp
  go_enter Try.func19, Try.ntmps19
  go_wp2_with fail
  refine (unhide C1).mono ?_
  rintro e w1 ⟨rfl, hd1, ho1⟩
  rw [hsz] at hd1
  have s1 := ho1.size
  rw [hsz] at s1
  have hF1 : ∀ k, Ext (fun _ => False) ((w.alloc (.cells #[.pointer (some ⟨d, 0, none⟩)] 29)).alloc (.cells #[.pointer none] 29)) w1 k → w.heap.size + 1 + 1 ≤ k := Ext.le (fun _ h => h.elim) (by rw [hsz]; exact Nat.le_refl _)
  have k1 := kk1.keep ho1 (fun h => h)
  have oA := o1.trans ho1 (fun _ _ h => h)
  generalize Ext (fun _ => False) ((w.alloc (.cells #[.pointer (some ⟨d, 0, none⟩)] 29)).alloc (.cells #[.pointer none] 29)) w1 = F1 at *
  have C2 := hide (dvmark_any hd1)
  clear C1 kk1 o1 ho1
  go_wp2_with fail
  refine (unhide C2).mono ?_
  rintro e w2 ⟨rfl, hd2, ho2⟩
  have s2 := ho2.size
  have k2 := k1.keep ho2 (fun h => by have := hF1 _ h; omega)
  have oB : Only (fun _ => False) w w2 := oA.trans ho2 (fun i hi h => by have := hF1 _ h; omega)
  have c0 := k2.cell 0
  have z0 := k2.free 0
  have k4 := k2.setCell 0 (.pointer (some ⟨w.heap.size + 1 + 1, 0, none⟩))
  have q0 := k4.cell 0
  have o4 : Only (fun k => k = w.heap.size + 1) w2 (w2.setCell ⟨w.heap.size + 1, 0, none⟩ (.pointer (some ⟨w.heap.size + 1 + 1, 0, none⟩))) :=
    (Only.refl (fun k => k = w.heap.size + 1) w2).setCell (p := ⟨w.heap.size + 1, 0, none⟩) (fun _ => rfl) _
  simp at q0
  clear C2
  go_wp2_with fail
  refine bodyPost_ret (v := .agg #[.pointer (some ⟨w.heap.size + 1 + 1, 0, none⟩)]) (by simp [results, Try.results19, go_sem, q0]) rfl ⟨_, F1, rfl, hd2.keep o4 (fun k hk e => ?_), ?_, oB.trans o4 (fun i hi e => by omega)⟩
  · have := hF1 k hk; omega
  · intro k hk; have := hF1 k hk; omega

theorem OStep.pre {w0 w' : World} {recs' : List Rec} {hl : Nat} (ho : Only (fun _ => False) w w0) (h : OStep w0 w' s d m D ob rt F H recs' ob' hl) : OStep w w' s d m D ob rt F H recs' ob' hl := by
  have hs := ho.size
  obtain ⟨⟨rt', a, cap, F', H', j, hf, hst⟩, h1, h2, h3, h4⟩ := h
  refine ⟨⟨rt', a, cap, F', H', j, fun k hk => ?_, hst⟩, h1, h2, h3, (ho.mono (fun _ _ h => h.elim)).trans h4 (fun _ _ h => h)⟩
  rcases hf k hk with h | h | h
  · exact .inl h
  · exact .inr (.inl h)
  · exact .inr (.inr (by omega))

structure DueOK (kind : Int) (ob ob' : Nat → Ob) (recs' : List Rec) (hl sz : Nat) : Prop where
  c : kind = 4 → hl = recs'.length
  p : kind = 1 → ((recs' = [] ∧ ob' = ob) ∨ (cntF ob' < cntF ob ∧ recs'.length = nB sz ∧ sz ≤ 180))
  o : kind ≠ 4 → kind ≠ 1 → recs' = []
structure OPl (w w' : World) (s d m : Nat) (D : Nat → Nat) (ob : Nat → Ob) (rt : Nat) (F H : Nat → Prop) (kind : Int) (sz : Nat) : Prop where
  ex : ∃ recs' ob' hl, OStep w w' s d m D ob rt F H recs' ob' hl ∧ DueOK kind ob ob' recs' hl sz
theorem OPl.pre {w0 w' : World} {kind : Int} {sz : Nat} (ho : Only (fun _ => False) w w0) (h : OPl w0 w' s d m D ob rt F H kind sz) : OPl w w' s d m D ob rt F H kind sz := by
  obtain ⟨recs', ob', hl, h1, h2⟩ := h
  exact ⟨recs', ob', hl, OStep.pre ho h1, h2⟩
theorem OPl.quiet {w' : World} {kind : Int} {sz : Nat} (h : OJ w s d m D D [] ob rt (.slice none 0 0) F H) (ho : Only (fun _ => False) w w') : OPl w w' s d m D ob rt F H kind sz :=
  ⟨[], ob, 0, OStep.same h ho, ⟨fun _ => rfl, fun _ => .inl ⟨rfl, rfl⟩, fun _ _ => rfl⟩⟩

theorem blocksFor_any (n : Nat) (hn : n ≤ 180) (w : World) :
    Calls Try.prog 37 #[.int .i64 n] w fun e w' => e = .returned (.int .i64 (nB n : Nat)) ∧ w = w' := by
  by_cases h0 : n = 0
  · subst h0
    go_enter Try.func37, Try.ntmps37
    go_wp2_with fail
    go_ret
    exact ⟨rfl, rfl⟩
  · have a0 : decide ((n : Int) ≤ 0) = false := by simp; omega
    have hq : ((n : Int) + 60 - 1).tdiv 60 = ((nB n : Nat) : Int) := by
      unfold nB
      have e : (n : Int) + 60 - 1 = ((n + 59 : Nat) : Int) := by omega
      rw [e, Int.tdiv_eq_ediv_of_nonneg (by omega)]
      (repeat' split) <;> omega
    have hq' : ((n : Int) + 60 - 1) / 60 = ((nB n : Nat) : Int) := by
      unfold nB
      (repeat' split) <;> omega
    have Hq := hide hq
    have Hq' := hide hq'
    clear hq hq'
    go_enter Try.func37, Try.ntmps37
    go_wp2_with fail
    go_ret
    rw [← unhide Hq']
    exact ⟨rfl, rfl⟩

set_option maxRecDepth 100000 in
theorem due_any {a : Option Addr} {hl cap : Nat} {recs' : List Rec} (kind x y z : Int) (sb tb : ByteArray) (hm : MAt w m ob' rt' (.slice a hl cap) H) (hd : DueOK kind ob ob' recs' hl sb.size) :
    Calls Try.prog 18 #[.agg #[.int .i64 kind, .int .i64 x, .int .i64 y, .int .i64 z, .string sb, .string tb], .pointer (some ⟨m, 0, none⟩), .int .i64 (cntF ob : Nat)] w fun e w' => e = .returned (.int .i64 recs'.length) ∧ Only (fun _ => False) w w' := by
  have o1 : Only (fun _ => False) w (w.alloc (.cells #[.int .i64 kind, .int .i64 x, .int .i64 y, .int .i64 z, .string sb, .string tb] 38)) := (Only.refl _ w).alloc _
  by_cases h4 : kind = 4
  · have e := hd.c h4
    subst h4
    have C1 := msteps_any (hm.quiet o1)
    rw [e] at C1
    have C1 := hide C1
    clear hd
    generalize cntF ob = c0 at *
    go_enter Try.func18, Try.ntmps18
    go_wp2_with fail
    refine (unhide C1).mono ?_
    rintro e w1 ⟨rfl, rfl⟩
    go_wp2_with fail
    go_ret
    exact ⟨rfl, o1⟩
  · have k4 : (kind == 4) = false := ne_intL h4
    by_cases h1 : kind = 1
    · subst h1
      have C1 := mfree_any (hm.quiet o1)
      rcases hd.p rfl with ⟨rfl, rfl⟩ | ⟨hlt, hlen, hsz⟩
      · generalize cntF ob' = c0 at *
        have C1 := hide C1
        have a1 : decide ((c0 : Int) < (c0 : Int)) = false := by simp
        clear hd
        go_enter Try.func18, Try.ntmps18
        go_wp2_with fail
        refine (unhide C1).mono ?_
        rintro e w1 ⟨rfl, rfl⟩
        go_wp2_with fail
        go_ret
        exact ⟨rfl, o1⟩
      · generalize cntF ob' = c1 at *
        generalize cntF ob = c0 at *
        have C1 := hide C1
        have C2 := hide (blocksFor_any sb.size hsz (w.alloc (.cells #[.int .i64 1, .int .i64 x, .int .i64 y, .int .i64 z, .string sb, .string tb] 38)))
        have a1 : decide ((c1 : Int) < (c0 : Int)) = true := by simp; omega
        have Hl := hide hlen
        clear hd hlen
        go_enter Try.func18, Try.ntmps18
        go_wp2_with fail
        refine (unhide C1).mono ?_
        rintro e w1 ⟨rfl, rfl⟩
        go_wp2_with fail
        refine (unhide C2).mono ?_
        rintro e w1 ⟨rfl, rfl⟩
        go_wp2_with fail
        go_ret
        rw [unhide Hl]
        exact ⟨rfl, o1⟩
    · have k1 : (kind == 1) = false := ne_intL h1
      have e := hd.o h4 h1
      subst e
      clear hd
      generalize cntF ob = c0 at *
      go_enter Try.func18, Try.ntmps18
      go_wp2_with fail
      go_ret
      exact ⟨rfl, o1⟩

set_option maxRecDepth 100000 in
theorem seen_any (h : OJ w s d m D B recs ob rt hist F H) (n : Nat) (hn : n = recs.length) :
    Calls Try.prog 13 #[.pointer (some ⟨s, 0, none⟩), .pointer (some ⟨m, 0, none⟩), .agg #[.pointer (some ⟨d, 0, none⟩)], .int .i64 n] w fun e w' => e = .returned (.bool true) ∧ Only (fun _ => False) w w' := by
  have o1 : Only (fun _ => False) w (w.alloc (.cells #[.pointer (some ⟨d, 0, none⟩)] 29)) := (Only.refl _ w).alloc _
  have k0 := Has.new w #[.pointer (some ⟨d, 0, none⟩)] 29
  have h1 := h.quiet o1
  have C1 := hide (check_any h1.os)
  go_enter Try.func13, Try.ntmps13
  go_wp2_with fail
  refine (unhide C1).mono ?_
  rintro e w2 ⟨rfl, ho2⟩
  have h2 := h1.quiet ho2
  have k2 := k0.keep ho2 (fun h => h)
  have C2 := hide (alike_any h2.os h2.md)
  clear C1
  go_wp2_with fail
  refine (unhide C2).mono ?_
  rintro e w3 ⟨b, rfl, hb, ho3⟩
  obtain rfl : b = true := hb.2 ⟨by first | exact rfl | trivial, by first | exact rfl | trivial, fun i hi => ⟨rfl, fun _ => ⟨rfl, rfl⟩⟩⟩
  have h3 := h2.quiet ho3
  have k3 := k2.keep ho3 (fun h => h)
  have c0 := k3.cell 0
  have C3 := olsteps_any h3.os.dev
  rw [← hn] at C3
  have C3 := hide C3
  have en : ((n : Int) == (n : Int)) = true := by simp
  clear C2 hb k2
  go_wp2_with fail
  refine (unhide C3).mono ?_
  rintro e w4 ⟨rfl, ho4⟩
  go_wp2_with fail
  go_ret
  exact ⟨by first | exact rfl | simp, ((o1.trans ho2 (fun _ _ h => h)).trans ho3 (fun _ _ h => h)).trans ho4 (fun _ _ h => h)⟩

set_option maxRecDepth 100000 in
theorem oplay1 (x y z : Int) (sb tb : ByteArray) (hs : sb.size ≤ maxLen) (j : OJ w s d m D D [] ob rt (.slice none 0 0) F H) :
    Calls Try.prog 17 #[.pointer (some ⟨s, 0, none⟩), .pointer (some ⟨m, 0, none⟩), .agg #[.int .i64 1, .int .i64 x, .int .i64 y, .int .i64 z, .string sb, .string tb]] w fun e w' => e = .returned (.bool true) ∧ OPl w w' s d m D ob rt F H 1 sb.size := by
  have o0 : Only (fun _ => False) w (w.alloc (.cells #[.int .i64 1, .int .i64 x, .int .i64 y, .int .i64 z, .string sb, .string tb] 38)) := (Only.refl _ w).alloc _
  have ko := Has.new w #[.int .i64 1, .int .i64 x, .int .i64 y, .int .i64 z, .string sb, .string tb] 38
  have j0 := j.quiet o0
  have C1 : Calls Try.prog 29 #[.pointer (some ⟨s, 0, none⟩), .pointer (some ⟨m, 0, none⟩), .int .i64 x, .string sb] (w.alloc (.cells #[.int .i64 1, .int .i64 x, .int .i64 y, .int .i64 z, .string sb, .string tb] 38)) fun e w' => e = .returned (.bool true) ∧ OPl w w' s d m D ob rt F H 1 sb.size :=
    (samePut_any j0 x sb hs).mono fun e w' ⟨p, recs', ob', q, r⟩ => ⟨p, OPl.pre o0 ⟨recs', ob', 0, q, ⟨fun h => (by cases h), fun _ => r, fun _ h => absurd rfl h⟩⟩⟩
  have C1 := hide C1
  have r1 := ko.cell 1
  have r3 := ko.cell 3
  have r4 := ko.cell 4
  clear j j0 ko o0
  go_enter Try.func17, Try.ntmps17
  go_wp2_with fail
  refine (unhide C1).mono ?_
  rintro e w1 ⟨rfl, h1⟩
  go_wp2_with fail
  go_ret
  exact ⟨rfl, h1⟩

set_option maxRecDepth 100000 in
theorem oplay3 (x y z : Int) (sb tb : ByteArray) (hs : sb.size ≤ maxLen) (j : OJ w s d m D D [] ob rt (.slice none 0 0) F H) :
    Calls Try.prog 17 #[.pointer (some ⟨s, 0, none⟩), .pointer (some ⟨m, 0, none⟩), .agg #[.int .i64 3, .int .i64 x, .int .i64 y, .int .i64 z, .string sb, .string tb]] w fun e w' => e = .returned (.bool true) ∧ OPl w w' s d m D ob rt F H 3 sb.size := by
  have o0 : Only (fun _ => False) w (w.alloc (.cells #[.int .i64 3, .int .i64 x, .int .i64 y, .int .i64 z, .string sb, .string tb] 38)) := (Only.refl _ w).alloc _
  have ko := Has.new w #[.int .i64 3, .int .i64 x, .int .i64 y, .int .i64 z, .string sb, .string tb] 38
  have j0 := j.quiet o0
  have C1 : Calls Try.prog 31 #[.pointer (some ⟨s, 0, none⟩), .pointer (some ⟨m, 0, none⟩), .int .i64 x] (w.alloc (.cells #[.int .i64 3, .int .i64 x, .int .i64 y, .int .i64 z, .string sb, .string tb] 38)) fun e w' => e = .returned (.bool true) ∧ OPl w w' s d m D ob rt F H 3 sb.size :=
    (sameDrop_any j0 x).mono fun e w' ⟨p, ob', q⟩ => ⟨p, OPl.pre o0 ⟨[], ob', 0, q, ⟨fun h => (by cases h), fun h => (by cases h), fun _ _ => rfl⟩⟩⟩
  have C1 := hide C1
  have r1 := ko.cell 1
  have r3 := ko.cell 3
  have r4 := ko.cell 4
  clear j j0 ko o0
  go_enter Try.func17, Try.ntmps17
  go_wp2_with fail
  refine (unhide C1).mono ?_
  rintro e w1 ⟨rfl, h1⟩
  go_wp2_with fail
  go_ret
  exact ⟨rfl, h1⟩

set_option maxRecDepth 100000 in
theorem oplay4 (x y z : Int) (sb tb : ByteArray) (hs : sb.size ≤ maxLen) (j : OJ w s d m D D [] ob rt (.slice none 0 0) F H) :
    Calls Try.prog 17 #[.pointer (some ⟨s, 0, none⟩), .pointer (some ⟨m, 0, none⟩), .agg #[.int .i64 4, .int .i64 x, .int .i64 y, .int .i64 z, .string sb, .string tb]] w fun e w' => e = .returned (.bool true) ∧ OPl w w' s d m D ob rt F H 4 sb.size := by
  have o0 : Only (fun _ => False) w (w.alloc (.cells #[.int .i64 4, .int .i64 x, .int .i64 y, .int .i64 z, .string sb, .string tb] 38)) := (Only.refl _ w).alloc _
  have ko := Has.new w #[.int .i64 4, .int .i64 x, .int .i64 y, .int .i64 z, .string sb, .string tb] 38
  have j0 := j.quiet o0
  have C1 : Calls Try.prog 32 #[.pointer (some ⟨s, 0, none⟩), .pointer (some ⟨m, 0, none⟩), .int .i64 x] (w.alloc (.cells #[.int .i64 4, .int .i64 x, .int .i64 y, .int .i64 z, .string sb, .string tb] 38)) fun e w' => e = .returned (.bool true) ∧ OPl w w' s d m D ob rt F H 4 sb.size :=
    (sameCommit_any j0 x).mono fun e w' ⟨p, recs', ob', q⟩ => ⟨p, OPl.pre o0 ⟨recs', ob', recs'.length, q, ⟨fun _ => rfl, fun h => (by cases h), fun h => absurd rfl h⟩⟩⟩
  have C1 := hide C1
  have r1 := ko.cell 1
  have r3 := ko.cell 3
  have r4 := ko.cell 4
  clear j j0 ko o0
  go_enter Try.func17, Try.ntmps17
  go_wp2_with fail
  refine (unhide C1).mono ?_
  rintro e w1 ⟨rfl, h1⟩
  go_wp2_with fail
  go_ret
  exact ⟨rfl, h1⟩

set_option maxRecDepth 100000 in
theorem oplay5 (x y z : Int) (sb tb : ByteArray) (hs : sb.size ≤ maxLen) (j : OJ w s d m D D [] ob rt (.slice none 0 0) F H) :
    Calls Try.prog 17 #[.pointer (some ⟨s, 0, none⟩), .pointer (some ⟨m, 0, none⟩), .agg #[.int .i64 5, .int .i64 x, .int .i64 y, .int .i64 z, .string sb, .string tb]] w fun e w' => e = .returned (.bool true) ∧ OPl w w' s d m D ob rt F H 5 sb.size := by
  have o0 : Only (fun _ => False) w (w.alloc (.cells #[.int .i64 5, .int .i64 x, .int .i64 y, .int .i64 z, .string sb, .string tb] 38)) := (Only.refl _ w).alloc _
  have ko := Has.new w #[.int .i64 5, .int .i64 x, .int .i64 y, .int .i64 z, .string sb, .string tb] 38
  have j0 := j.quiet o0
  have C1 : Calls Try.prog 33 #[.pointer (some ⟨s, 0, none⟩), .pointer (some ⟨m, 0, none⟩)] (w.alloc (.cells #[.int .i64 5, .int .i64 x, .int .i64 y, .int .i64 z, .string sb, .string tb] 38)) fun e w' => e = .returned (.bool true) ∧ OPl w w' s d m D ob rt F H 5 sb.size :=
    (sameAbort_any j0).mono fun e w' ⟨p, ob', q⟩ => ⟨p, OPl.pre o0 ⟨[], ob', 0, q, ⟨fun h => (by cases h), fun h => (by cases h), fun _ _ => rfl⟩⟩⟩
  have C1 := hide C1
  have r1 := ko.cell 1
  have r3 := ko.cell 3
  have r4 := ko.cell 4
  clear j j0 ko o0
  go_enter Try.func17, Try.ntmps17
  go_wp2_with fail
  refine (unhide C1).mono ?_
  rintro e w1 ⟨rfl, h1⟩
  go_wp2_with fail
  go_ret
  exact ⟨rfl, h1⟩

set_option maxRecDepth 100000 in
theorem oplay7 (x y z : Int) (sb tb : ByteArray) (hs : sb.size ≤ maxLen) (j : OJ w s d m D D [] ob rt (.slice none 0 0) F H) :
    Calls Try.prog 17 #[.pointer (some ⟨s, 0, none⟩), .pointer (some ⟨m, 0, none⟩), .agg #[.int .i64 7, .int .i64 x, .int .i64 y, .int .i64 z, .string sb, .string tb]] w fun e w' => e = .returned (.bool true) ∧ OPl w w' s d m D ob rt F H 7 sb.size := by
  have o0 : Only (fun _ => False) w (w.alloc (.cells #[.int .i64 7, .int .i64 x, .int .i64 y, .int .i64 z, .string sb, .string tb] 38)) := (Only.refl _ w).alloc _
  have ko := Has.new w #[.int .i64 7, .int .i64 x, .int .i64 y, .int .i64 z, .string sb, .string tb] 38
  have j0 := j.quiet o0
  have C1 : Calls Try.prog 34 #[.pointer (some ⟨s, 0, none⟩), .pointer (some ⟨m, 0, none⟩)] (w.alloc (.cells #[.int .i64 7, .int .i64 x, .int .i64 y, .int .i64 z, .string sb, .string tb] 38)) fun e w' => e = .returned (.bool true) ∧ OPl w w' s d m D ob rt F H 7 sb.size :=
    (sameRoot_any j0.os j0.md).mono fun e w' ⟨p, q⟩ => ⟨by rw [p]; simp, OPl.pre o0 (OPl.quiet j0 (q ▸ Only.refl _ _))⟩
  have C1 := hide C1
  have r1 := ko.cell 1
  have r3 := ko.cell 3
  have r4 := ko.cell 4
  clear j j0 ko o0
  go_enter Try.func17, Try.ntmps17
  go_wp2_with fail
  refine (unhide C1).mono ?_
  rintro e w1 ⟨rfl, h1⟩
  go_wp2_with fail
  go_ret
  exact ⟨rfl, h1⟩

set_option maxRecDepth 100000 in
theorem oplay8 (x y z : Int) (sb tb : ByteArray) (hs : sb.size ≤ maxLen) (j : OJ w s d m D D [] ob rt (.slice none 0 0) F H) :
    Calls Try.prog 17 #[.pointer (some ⟨s, 0, none⟩), .pointer (some ⟨m, 0, none⟩), .agg #[.int .i64 8, .int .i64 x, .int .i64 y, .int .i64 z, .string sb, .string tb]] w fun e w' => e = .returned (.bool true) ∧ OPl w w' s d m D ob rt F H 8 sb.size := by
  have o0 : Only (fun _ => False) w (w.alloc (.cells #[.int .i64 8, .int .i64 x, .int .i64 y, .int .i64 z, .string sb, .string tb] 38)) := (Only.refl _ w).alloc _
  have ko := Has.new w #[.int .i64 8, .int .i64 x, .int .i64 y, .int .i64 z, .string sb, .string tb] 38
  have j0 := j.quiet o0
  have C1 : Calls Try.prog 35 #[.pointer (some ⟨s, 0, none⟩), .pointer (some ⟨m, 0, none⟩)] (w.alloc (.cells #[.int .i64 8, .int .i64 x, .int .i64 y, .int .i64 z, .string sb, .string tb] 38)) fun e w' => e = .returned (.bool true) ∧ OPl w w' s d m D ob rt F H 8 sb.size :=
    (sameFree_any j0.os j0.md).mono fun e w' ⟨p, q⟩ => ⟨by rw [p]; simp, OPl.pre o0 (OPl.quiet j0 (q ▸ Only.refl _ _))⟩
  have C1 := hide C1
  have r1 := ko.cell 1
  have r3 := ko.cell 3
  have r4 := ko.cell 4
  clear j j0 ko o0
  go_enter Try.func17, Try.ntmps17
  go_wp2_with fail
  refine (unhide C1).mono ?_
  rintro e w1 ⟨rfl, h1⟩
  go_wp2_with fail
  go_ret
  exact ⟨rfl, h1⟩

set_option maxRecDepth 100000 in
theorem oplay9 (x y z : Int) (sb tb : ByteArray) (hs : sb.size ≤ maxLen) (j : OJ w s d m D D [] ob rt (.slice none 0 0) F H) :
    Calls Try.prog 17 #[.pointer (some ⟨s, 0, none⟩), .pointer (some ⟨m, 0, none⟩), .agg #[.int .i64 9, .int .i64 x, .int .i64 y, .int .i64 z, .string sb, .string tb]] w fun e w' => e = .returned (.bool true) ∧ OPl w w' s d m D ob rt F H 9 sb.size := by
  have o0 : Only (fun _ => False) w (w.alloc (.cells #[.int .i64 9, .int .i64 x, .int .i64 y, .int .i64 z, .string sb, .string tb] 38)) := (Only.refl _ w).alloc _
  have ko := Has.new w #[.int .i64 9, .int .i64 x, .int .i64 y, .int .i64 z, .string sb, .string tb] 38
  have j0 := j.quiet o0
  have C1 : Calls Try.prog 21 #[.pointer (some ⟨s, 0, none⟩)] (w.alloc (.cells #[.int .i64 9, .int .i64 x, .int .i64 y, .int .i64 z, .string sb, .string tb] 38)) fun e w' => e = .returned (.bool true) ∧ OPl w w' s d m D ob rt F H 9 sb.size :=
    (check_any j0.os).mono fun e w' ⟨p, q⟩ => ⟨p, OPl.pre o0 (OPl.quiet j0 q)⟩
  have C1 := hide C1
  have r1 := ko.cell 1
  have r3 := ko.cell 3
  have r4 := ko.cell 4
  clear j j0 ko o0
  go_enter Try.func17, Try.ntmps17
  go_wp2_with fail
  refine (unhide C1).mono ?_
  rintro e w1 ⟨rfl, h1⟩
  go_wp2_with fail
  go_ret
  exact ⟨rfl, h1⟩

set_option maxRecDepth 100000 in
theorem oplay2a (x y z : Int) (sb tb : ByteArray) (hs : sb.size ≤ maxLen) (j : OJ w s d m D D [] ob rt (.slice none 0 0) F H) (hz : z ≠ 0) :
    Calls Try.prog 17 #[.pointer (some ⟨s, 0, none⟩), .pointer (some ⟨m, 0, none⟩), .agg #[.int .i64 2, .int .i64 x, .int .i64 y, .int .i64 z, .string sb, .string tb]] w fun e w' => e = .returned (.bool true) ∧ OPl w w' s d m D ob rt F H 2 sb.size := by
  have o0 : Only (fun _ => False) w (w.alloc (.cells #[.int .i64 2, .int .i64 x, .int .i64 y, .int .i64 z, .string sb, .string tb] 38)) := (Only.refl _ w).alloc _
  have ko := Has.new w #[.int .i64 2, .int .i64 x, .int .i64 y, .int .i64 z, .string sb, .string tb] 38
  have j0 := j.quiet o0
  have C1 : Calls Try.prog 30 #[.pointer (some ⟨s, 0, none⟩), .pointer (some ⟨m, 0, none⟩), .int .i64 x, .bool true] (w.alloc (.cells #[.int .i64 2, .int .i64 x, .int .i64 y, .int .i64 z, .string sb, .string tb] 38)) fun e w' => e = .returned (.bool true) ∧ OPl w w' s d m D ob rt F H 2 sb.size :=
    (sameGet_once j0.os j0.md x).mono fun e w' ⟨p, q⟩ => ⟨by rw [p, sgB_self], OPl.pre o0 (OPl.quiet j0 q)⟩
  have C1 := hide C1
  have r1 := ko.cell 1
  have r3 := ko.cell 3
  have r4 := ko.cell 4
  have hz1 : (z != 0) = true := by simpa using hz
  clear hz
  clear j j0 ko o0
  go_enter Try.func17, Try.ntmps17
  go_wp2_with fail
  refine (unhide C1).mono ?_
  rintro e w1 ⟨rfl, h1⟩
  go_wp2_with fail
  go_ret
  exact ⟨rfl, h1⟩

set_option maxRecDepth 100000 in
theorem oplay2b (x y z : Int) (sb tb : ByteArray) (hs : sb.size ≤ maxLen) (j : OJ w s d m D D [] ob rt (.slice none 0 0) F H) (hz : z = 0) :
    Calls Try.prog 17 #[.pointer (some ⟨s, 0, none⟩), .pointer (some ⟨m, 0, none⟩), .agg #[.int .i64 2, .int .i64 x, .int .i64 y, .int .i64 z, .string sb, .string tb]] w fun e w' => e = .returned (.bool true) ∧ OPl w w' s d m D ob rt F H 2 sb.size := by
  have o0 : Only (fun _ => False) w (w.alloc (.cells #[.int .i64 2, .int .i64 x, .int .i64 y, .int .i64 z, .string sb, .string tb] 38)) := (Only.refl _ w).alloc _
  have ko := Has.new w #[.int .i64 2, .int .i64 x, .int .i64 y, .int .i64 z, .string sb, .string tb] 38
  have j0 := j.quiet o0
  have C1 : Calls Try.prog 30 #[.pointer (some ⟨s, 0, none⟩), .pointer (some ⟨m, 0, none⟩), .int .i64 x, .bool false] (w.alloc (.cells #[.int .i64 2, .int .i64 x, .int .i64 y, .int .i64 z, .string sb, .string tb] 38)) fun e w' => e = .returned (.bool true) ∧ OPl w w' s d m D ob rt F H 2 sb.size :=
    (sameGet_thrice j0.os j0.md x).mono fun e w' ⟨p, q⟩ => ⟨p, OPl.pre o0 (OPl.quiet j0 q)⟩
  have C1 := hide C1
  have r1 := ko.cell 1
  have r3 := ko.cell 3
  have r4 := ko.cell 4
  have hz1 : (z != 0) = false := by simpa using hz
  clear hz
  clear j j0 ko o0
  go_enter Try.func17, Try.ntmps17
  go_wp2_with fail
  refine (unhide C1).mono ?_
  rintro e w1 ⟨rfl, h1⟩
  go_wp2_with fail
  go_ret
  exact ⟨rfl, h1⟩

set_option maxRecDepth 100000 in
theorem oplay_other (kind x y z : Int) (sb tb : ByteArray) (j : OJ w s d m D D [] ob rt (.slice none 0 0) F H) (hk : kind = 6 ∨ ¬ (1 ≤ kind ∧ kind ≤ 9)) :
    Calls Try.prog 17 #[.pointer (some ⟨s, 0, none⟩), .pointer (some ⟨m, 0, none⟩), .agg #[.int .i64 kind, .int .i64 x, .int .i64 y, .int .i64 z, .string sb, .string tb]] w fun e w' => e = .returned (.bool true) ∧ OPl w w' s d m D ob rt F H kind sb.size := by
  have o0 : Only (fun _ => False) w (w.alloc (.cells #[.int .i64 kind, .int .i64 x, .int .i64 y, .int .i64 z, .string sb, .string tb] 38)) := (Only.refl _ w).alloc _
  have J := hide (OPl.quiet (kind := kind) (sz := sb.size) j o0)
  have k1 : (kind == 1) = false := ne_intL (by omega)
  have k2 : (kind == 2) = false := ne_intL (by omega)
  have k3 : (kind == 3) = false := ne_intL (by omega)
  have k4 : (kind == 4) = false := ne_intL (by omega)
  have k5 : (kind == 5) = false := ne_intL (by omega)
  have k7 : (kind == 7) = false := ne_intL (by omega)
  have k8 : (kind == 8) = false := ne_intL (by omega)
  have k9 : (kind == 9) = false := ne_intL (by omega)
  clear hk j
  go_enter Try.func17, Try.ntmps17
  go_wp2_with fail
  go_ret
  exact ⟨rfl, unhide J⟩

theorem oplay_any (kind x y z : Int) (sb tb : ByteArray) (hs : sb.size ≤ maxLen) (j : OJ w s d m D D [] ob rt (.slice none 0 0) F H) :
    Calls Try.prog 17 #[.pointer (some ⟨s, 0, none⟩), .pointer (some ⟨m, 0, none⟩), .agg #[.int .i64 kind, .int .i64 x, .int .i64 y, .int .i64 z, .string sb, .string tb]] w fun e w' => e = .returned (.bool true) ∧ OPl w w' s d m D ob rt F H kind sb.size := by
  by_cases hk : kind = 6 ∨ ¬ (1 ≤ kind ∧ kind ≤ 9)
  · exact oplay_other kind x y z sb tb j hk
  · have hc : kind = 1 ∨ kind = 2 ∨ kind = 3 ∨ kind = 4 ∨ kind = 5 ∨ kind = 7 ∨ kind = 8 ∨ kind = 9 := by omega
    rcases hc with rfl | rfl | rfl | rfl | rfl | rfl | rfl | rfl
    · exact oplay1 x y z sb tb hs j
    · by_cases hz : z = 0
      · exact oplay2b x y z sb tb hs j hz
      · exact oplay2a x y z sb tb hs j hz
    · exact oplay3 x y z sb tb hs j
    · exact oplay4 x y z sb tb hs j
    · exact oplay5 x y z sb tb hs j
    · exact oplay7 x y z sb tb hs j
    · exact oplay8 x y z sb tb hs j
    · exact oplay9 x y z sb tb hs j
end
end Go.Proofs.Qxb6500419a
