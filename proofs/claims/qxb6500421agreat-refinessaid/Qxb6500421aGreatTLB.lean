/-
  OWN WORK. THE TREE LAW: below.go; Play of any op.
-/
import Derived.Test.Qxb6500421aGreatTLR
import Derived.Test.Qxb6500421aGreatOpsDef
namespace Go.Proofs.Qxb6500421aGreat
open Go.RowKit Go.PlainAid
set_option linter.unusedSimpArgs false
set_option linter.unusedVariables false

theorem newT {w w' : World} {k : Nat} (h : Ext (fun _ => False) w w' k) : w.heap.size ≤ k ∧ k < w'.heap.size := by
  rcases h with h | h
  · exact h.elim
  · exact h
/-- The zero device shows the empty table. -/
theorem timg_zero : Img (fun _ => 0) 0 (fun _ => Ob.free) := by
  refine ⟨fun _ _ => .inl rfl, fun _ _ _ => rfl, fun _ _ h => by simp [Ob.free] at h, fun _ _ => List.nodup_nil, fun _ _ _ _ _ b hb => by simp [Ob.free] at hb, ⟨rfl, by omega, fun h => absurd rfl h, fun i hi => ?_, fun _ _ _ => rfl⟩, ?_⟩
  · rw [if_neg (by simp [last_free])]
  · intro i j _ _ h1; simp [live_free] at h1
theorem inv_free : Inv (fun _ => Sl.free) := by
  refine ⟨?_, ?_, ?_, ?_, ?_, ?_, ?_, ?_, ?_⟩
  · intro i _; simp [Sl.free]
  · intro i _ _; rfl
  · intro i _ h; simp [Sl.free] at h
  · intro i _ h; simp [Sl.free] at h
  · intro i _ h; simp [Sl.free] at h
  · intro i _ h; simp [liveS, Sl.free] at h
  · intro i _ h; simp [lastS, Sl.free] at h
  · intro i j _ _ h; simp [liveS, Sl.free] at h
  · intro i j _ _ h; simp [lastS, Sl.free] at h
theorem rep_free : Rep (fun _ => Ob.free) (fun _ => Sl.free) := fun _ _ => ⟨rfl, rfl, rfl⟩

set_option maxRecDepth 100000 in
theorem tlground_any (w : World) :
    Calls Tryz.prog 8 #[] w fun e w' => ∃ d s F, e = .returned (.agg #[.pointer (some ⟨d, 0, none⟩), .pointer (some ⟨s, 0, none⟩)]) ∧ OS w' s d (fun _ => 0) (fun _ => 0) [] (fun _ => Ob.free) 0 F ∧ (∀ k, F k ∨ k = s → w.heap.size ≤ k ∧ k < w'.heap.size) ∧ Only (fun _ => False) w w' := by
  go_enter Tryz.func8, Tryz.ntmps8
  go_wp2_with fail
  refine (dvnew_any _).mono ?_
  rintro e w1 ⟨rfl, hd1, ho1⟩
  have s1 := ho1.size
  simp only [World.size_alloc] at s1 hd1
  have k1 := (Has.new w #[.pointer none, .pointer none] 30).keep ho1 (fun h => h)
  have oA := ((Only.refl (fun _ => False) w).alloc (.cells #[.pointer none, .pointer none] 30)).trans ho1 (fun _ _ h => h)
  have N1 : ∀ x, Ext (fun _ => False) (w.alloc (.cells #[.pointer none, .pointer none] 30)) w1 x → w.heap.size + 1 ≤ x ∧ x < w1.heap.size := fun x hx => by
    have := newT hx
    simpa using this
  generalize Ext (fun _ => False) (w.alloc (.cells #[.pointer none, .pointer none] 30)) w1 = F at *
  have C1 := hide (open_any hd1 timg_zero)
  have hdl := hd1.inn
  clear ho1
  go_wp2_with fail
  refine (unhide C1).mono ?_
  rintro e w2 ⟨rfl, hO, ho2⟩
  have s2 := ho2.size
  have k2 := k1.keep ho2 (fun h => h)
  have c0 := k2.cell 0
  have z0 := k2.free 0
  have c1 := k2.cell 1
  have z1 := k2.free 1
  have k3 := (k2.setCell 0 (.pointer (some ⟨w.heap.size + 1, 0, none⟩))).setCell 1 (.pointer (some ⟨w1.heap.size, 0, none⟩))
  have o3 : Only (fun k => k = w.heap.size) w2 ((w2.setCell ⟨w.heap.size, 0, none⟩ (.pointer (some ⟨w.heap.size + 1, 0, none⟩))).setCell ⟨w.heap.size, 1, none⟩ (.pointer (some ⟨w1.heap.size, 0, none⟩))) := ((Only.refl (fun k => k = w.heap.size) w2).setCell (p := ⟨w.heap.size, 0, none⟩) (fun _ => rfl) _).setCell (p := ⟨w.heap.size, 1, none⟩) (fun _ => rfl) _
  have q0 := k3.cell 0
  have q1 := k3.cell 1
  simp at q0 q1
  have hOS := hO.keep o3 (fun e => by omega) (fun k hk e => by have := N1 k hk; omega)
  have RO := hide hOS
  have OF := hide (((oA.trans ho2 (fun _ _ h => h)).trans o3 (fun i hi e => by omega)) : Only (fun _ => False) w _)
  have hsl : w1.heap.size < w2.heap.size := by
    obtain ⟨⟨tab, hd, us, nf, bk, hs, hi⟩, _, _⟩ := hO
    exact Has.lt hs
  clear C1 hO hOS ho2 oA o3 k1 k2 k3 hd1
  go_wp2_with fail
  refine bodyPost_ret (v := .agg #[.pointer (some ⟨w.heap.size + 1, 0, none⟩), .pointer (some ⟨w1.heap.size, 0, none⟩)]) (by simp [results, Tryz.results8, go_sem, q0, q1]) rfl ⟨_, _, F, rfl, unhide RO, fun k hk => ?_, unhide OF⟩
  rcases hk with hk | hk
  · have := N1 k hk; simp; omega
  · simp; omega

section
variable {w : World} {t s d m dk : Nat} {D B : Nat → Nat} {recs : List Rec} {J : Nat → Sl} {rt : Nat} {F H R : Nat → Prop} {po : Nat → Ob}
set_option maxRecDepth 100000 in
theorem tlsteps_any (hd : DevAt w d D B recs F) (s : Nat) :
    Calls Tryz.prog 12 #[.agg #[.pointer (some ⟨d, 0, none⟩), .pointer (some ⟨s, 0, none⟩)]] w fun e w' => e = .returned (.int .i64 recs.length) ∧ Only (fun _ => False) w w' := by
  have o1 : Only (fun _ => False) w (w.alloc (.cells #[.pointer (some ⟨d, 0, none⟩), .pointer (some ⟨s, 0, none⟩)] 30)) := (Only.refl _ w).alloc _
  have C1 := hide (dvsteps_any (hd.quiet o1))
  clear hd
  go_enter Tryz.func12, Tryz.ntmps12
  go_wp2_with fail
  refine (unhide C1).mono ?_
  rintro e w1 ⟨rfl, rfl⟩
  go_wp2_with fail
  go_ret
  exact ⟨rfl, o1⟩
set_option maxRecDepth 100000 in
theorem tlmark_any (hd : DevAt w d D B recs F) (s : Nat) :
    Calls Tryz.prog 15 #[.agg #[.pointer (some ⟨d, 0, none⟩), .pointer (some ⟨s, 0, none⟩)]] w fun e w' => e = .returned (.tuple #[]) ∧ DevAt w' d D D [] F ∧ Only F w w' := by
  have o1 : Only (fun _ => False) w (w.alloc (.cells #[.pointer (some ⟨d, 0, none⟩), .pointer (some ⟨s, 0, none⟩)] 30)) := (Only.refl _ w).alloc _
  have C1 := hide (dvmark_any (hd.quiet o1))
  clear hd
  go_enter Tryz.func15, Tryz.ntmps15
  go_wp2_with fail
  refine (unhide C1).mono ?_
  rintro e w1 ⟨rfl, hd1, ho1⟩
  go_wp2_with fail
  go_end0
  exact ⟨rfl, hd1, (o1.mono (fun _ _ h => h.elim)).trans ho1 (fun _ _ h => h)⟩
theorem tlcounted_any (a b : Int) (w : World) :
    Calls Tryz.prog 13 #[.int .i64 a, .int .i64 b] w fun e w' => e = .returned (.bool true) ∧ w = w' := by
  go_enter Tryz.func13, Tryz.ntmps13
  go_wp2_with fail
  go_ret
  exact ⟨rfl, rfl⟩
set_option maxRecDepth 100000 in
theorem tlafter_any (hd : DevAt w d D B recs F) (s : Nat) (kk : Int) (hkeys : ∀ r ∈ recs, r.1 < 145) (hrl : recs.length ≤ 1000) (hI : Img (replayB B (recs.take kk.toNat)) rt po) :
    Calls Tryz.prog 19 #[.agg #[.pointer (some ⟨d, 0, none⟩), .pointer (some ⟨s, 0, none⟩)], .int .i64 kk] w fun e w' => ∃ d' s' F', e = .returned (.agg #[.pointer (some ⟨d', 0, none⟩), .pointer (some ⟨s', 0, none⟩)]) ∧ OS w' s' d' (replayB B (recs.take kk.toNat)) (replayB B (recs.take kk.toNat)) [] po rt F' ∧ (∀ k, F' k ∨ k = s' → w.heap.size ≤ k ∧ k < w'.heap.size) ∧ Only (fun _ => False) w w' := by
  have o1 : Only (fun _ => False) w ((w.alloc (.cells #[.pointer (some ⟨d, 0, none⟩), .pointer (some ⟨s, 0, none⟩)] 30)).alloc (.cells #[.pointer none, .pointer none] 30)) := ((Only.refl _ w).alloc _).alloc _
  have C1 := dvafter_any (hd.quiet o1) kk hkeys hrl
  have kk1 : Has ((w.alloc (.cells #[.pointer (some ⟨d, 0, none⟩), .pointer (some ⟨s, 0, none⟩)] 30)).alloc (.cells #[.pointer none, .pointer none] 30)) (w.heap.size + 1) #[.pointer none, .pointer none] 30 := Has.new' _ _ _ _ (by simp)
  have HI := hide hI
  generalize replayB B (recs.take kk.toNat) = D0 at *
  have hsz : ((w.alloc (.cells #[.pointer (some ⟨d, 0, none⟩), .pointer (some ⟨s, 0, none⟩)] 30)).alloc (.cells #[.pointer none, .pointer none] 30)).heap.size = w.heap.size + 1 + 1 := by simp
  have C1 := hide C1
  clear hd hkeys hI
  go_enter Tryz.func19, Tryz.ntmps19
  go_wp2_with fail
  refine (unhide C1).mono ?_
  rintro e w1 ⟨rfl, hd1, ho1⟩
  rw [hsz] at hd1
  have s1 := ho1.size
  rw [hsz] at s1
  have hF1 : ∀ k, Ext (fun _ => False) ((w.alloc (.cells #[.pointer (some ⟨d, 0, none⟩), .pointer (some ⟨s, 0, none⟩)] 30)).alloc (.cells #[.pointer none, .pointer none] 30)) w1 k → w.heap.size + 1 + 1 ≤ k := Ext.le (fun _ h => h.elim) (by rw [hsz]; exact Nat.le_refl _)
  have k1 := kk1.keep ho1 (fun h => h)
  have oA := o1.trans ho1 (fun _ _ h => h)
  generalize Ext (fun _ => False) ((w.alloc (.cells #[.pointer (some ⟨d, 0, none⟩), .pointer (some ⟨s, 0, none⟩)] 30)).alloc (.cells #[.pointer none, .pointer none] 30)) w1 = F1 at *
  have C2 := hide (dvmark_any hd1)
  have hF1i := hd1.inn
  clear C1 kk1 o1 ho1
  go_wp2_with fail
  refine (unhide C2).mono ?_
  rintro e w2 ⟨rfl, hd2, ho2⟩
  have s2 := ho2.size
  have k2 := k1.keep ho2 (fun h => by have := hF1 _ h; omega)
  have oB : Only (fun _ => False) w w2 := oA.trans ho2 (fun i hi h => by have := hF1 _ h; omega)
  have C3 := hide (open_any hd2 (unhide HI))
  have hF2i := hd2.inn
  clear C2 k1 oA ho2 hd1
  go_wp2_with fail
  refine (unhide C3).mono ?_
  rintro e w3 ⟨rfl, hO, ho3⟩
  have s3 := ho3.size
  have k3 := k2.keep ho3 (fun h => h)
  have c0 := k3.cell 0
  have z0 := k3.free 0
  have c1 := k3.cell 1
  have z1 := k3.free 1
  have k4 := (k3.setCell 0 (.pointer (some ⟨w.heap.size + 1 + 1, 0, none⟩))).setCell 1 (.pointer (some ⟨w2.heap.size, 0, none⟩))
  have o4 : Only (fun k => k = w.heap.size + 1) w3 ((w3.setCell ⟨w.heap.size + 1, 0, none⟩ (.pointer (some ⟨w.heap.size + 1 + 1, 0, none⟩))).setCell ⟨w.heap.size + 1, 1, none⟩ (.pointer (some ⟨w2.heap.size, 0, none⟩))) :=
    ((Only.refl (fun k => k = w.heap.size + 1) w3).setCell (p := ⟨w.heap.size + 1, 0, none⟩) (fun _ => rfl) _).setCell (p := ⟨w.heap.size + 1, 1, none⟩) (fun _ => rfl) _
  have q0 := k4.cell 0
  have q1 := k4.cell 1
  simp at q0 q1
  have hsl : w2.heap.size < w3.heap.size := by
    obtain ⟨⟨tab, hd, us, nf, bk, hs, hi⟩, _, _⟩ := hO
    exact Has.lt hs
  have RO := hide (hO.keep o4 (fun e => by omega) (fun k hk e => by have := hF1 k hk; omega))
  have OF := hide (((oB.trans ho3 (fun _ _ h => h)).trans o4 (fun i hi e => by omega)) : Only (fun _ => False) w _)
  have RF : Hid (∀ k, F1 k ∨ k = w2.heap.size → w.heap.size ≤ k ∧ k < w3.heap.size) := hide (fun k hk => by
    rcases hk with hk | hk
    · have := hF1 k hk; have := hF2i k hk; omega
    · omega)
  clear C3 hO ho3 k2 k3 k4 o4 hd2 oB
  go_wp2_with fail
  refine bodyPost_ret (v := .agg #[.pointer (some ⟨w.heap.size + 1 + 1, 0, none⟩), .pointer (some ⟨w2.heap.size, 0, none⟩)]) (by simp [results, Tryz.results19, go_sem, q0, q1]) rfl ⟨_, _, F1, rfl, unhide RO, fun k hk => ?_, unhide OF⟩
  have := unhide RF k hk
  simpa using this

set_option maxRecDepth 100000 in
theorem tplay_other (kind x y z : Int) (sb tb : ByteArray) (j : PW w t s d m dk D J rt F H R) (hk : kind = 10 ∨ ¬ (1 ≤ kind ∧ kind ≤ 13)) :
    Calls Tryz.prog 17 #[.pointer (some ⟨t, 0, none⟩), .pointer (some ⟨m, 0, none⟩), .pointer (some ⟨dk, 0, none⟩), .agg #[.int .i64 kind, .int .i64 x, .int .i64 y, .int .i64 z, .string sb, .string tb]] w fun e w' => e = .returned (.bool true) ∧ PStep w w' t s d m dk D J rt F H R := by
  have o0 : Only (fun _ => False) w (w.alloc (.cells #[.int .i64 kind, .int .i64 x, .int .i64 y, .int .i64 z, .string sb, .string tb] 44)) := (Only.refl _ w).alloc _
  have RR := hide (PStep.same j o0)
  have k1 : (kind == 1) = false := ne_intO (by omega)
  have k2 : (kind == 2) = false := ne_intO (by omega)
  have k3 : (kind == 3) = false := ne_intO (by omega)
  have k4 : (kind == 4) = false := ne_intO (by omega)
  have k5 : (kind == 5) = false := ne_intO (by omega)
  have k6 : (kind == 6) = false := ne_intO (by omega)
  have k7 : (kind == 7) = false := ne_intO (by omega)
  have k8 : (kind == 8) = false := ne_intO (by omega)
  have k9 : (kind == 9) = false := ne_intO (by omega)
  have k11 : (kind == 11) = false := ne_intO (by omega)
  have k12 : (kind == 12) = false := ne_intO (by omega)
  have k13 : (kind == 13) = false := ne_intO (by omega)
  clear hk j
  go_enter Tryz.func17, Tryz.ntmps17
  go_wp2_with fail
  go_ret
  exact ⟨rfl, unhide RR⟩
theorem tplay_any (kind x y z : Int) (sb tb : ByteArray) (hs : sb.size ≤ maxLen) (j : PW w t s d m dk D J rt F H R) :
    Calls Tryz.prog 17 #[.pointer (some ⟨t, 0, none⟩), .pointer (some ⟨m, 0, none⟩), .pointer (some ⟨dk, 0, none⟩), .agg #[.int .i64 kind, .int .i64 x, .int .i64 y, .int .i64 z, .string sb, .string tb]] w fun e w' => e = .returned (.bool true) ∧ PStep w w' t s d m dk D J rt F H R := by
  by_cases hk : kind = 10 ∨ ¬ (1 ≤ kind ∧ kind ≤ 13)
  · exact tplay_other kind x y z sb tb j hk
  · have hc : kind = 1 ∨ kind = 2 ∨ kind = 3 ∨ kind = 4 ∨ kind = 5 ∨ kind = 6 ∨ kind = 7 ∨ kind = 8 ∨ kind = 9 ∨ kind = 11 ∨ kind = 12 ∨ kind = 13 := by omega
    rcases hc with rfl | rfl | rfl | rfl | rfl | rfl | rfl | rfl | rfl | rfl | rfl | rfl
    · exact tplay1 x y z sb tb hs j
    · by_cases hz : z = 0
      · exact tplay2b x y z sb tb hs j hz
      · exact tplay2a x y z sb tb hs j hz
    · obtain ⟨v, reg, h1, h2, h3, h4⟩ := j.dk.ex
      by_cases h8 : reg.length ≤ 8
      · exact tplay3b x y z sb tb hs j v reg h1 h2 h4 h8
      · refine tplay3a x y z sb tb hs j (fun v' reg' g1 g2 => ?_)
        have e1 : v' = v := by
          have := (g1.cell 0).symm.trans (h1.cell 0)
          simpa using this
        obtain ⟨a, c, ha⟩ := ownsRow_shape h2
        obtain ⟨a', c', ha'⟩ := ownsRow_shape g2
        rw [e1, ha] at ha'
        simp at ha'
        omega
    · exact tplay4 x y z sb tb hs j
    · by_cases hz : z = 0
      · exact tplay5b x y z sb tb hs j hz
      · exact tplay5a x y z sb tb hs j hz
    · by_cases hz : z = 0
      · exact tplay6b x y z sb tb hs j hz
      · exact tplay6a x y z sb tb hs j hz
    · exact tplay7 x y z sb tb hs j
    · exact tplay8 x y z sb tb hs j
    · exact tplay9 x y z sb tb hs j
    · exact tplay11 x y z sb tb hs j
    · exact tplay12 x y z sb tb hs j
    · exact tplay13 x y z sb tb hs j
end
end Go.Proofs.Qxb6500421aGreat
