/-
  OWN WORK. THE GRAPH LAW: below.go, Looks, Register (written by tools/gen_gl11.py).
-/
import Derived.Test.Qxb6500417aGreatGL10
namespace Go.Proofs.Qxb6500417aGreat
open Go.RowKit Go.PlainAid
set_option linter.unusedSimpArgs false
set_option linter.unusedVariables false

theorem newT {w w' : World} {k : Nat} (h : Ext (fun _ => False) w w' k) : w.heap.size ≤ k ∧ k < w'.heap.size := by
  rcases h with h | h
  · exact h.elim
  · exact h
/-- The zero device shows the empty table. -/
theorem timg_zero : Img (fun _ => 0) 0 (fun _ => Ob.free) := by
  refine ⟨fun _ _ => .inl rfl, fun _ _ _ => rfl, fun _ _ h => by simp [Ob.free] at h, fun _ _ => List.nodup_nil, fun _ _ _ _ _ b hb => by simp [Ob.free] at hb, ⟨rfl, by omega, fun h => absurd rfl h, fun i hi => ?_, fun _ _ _ => rfl⟩, ?_⟩
  · rw [if_neg (by simp [last_free])]
  · intro i j _ _ h1; simp [live_free] at h1
theorem inv_free : Inv (fun _ => Sl.free) := by
  refine ⟨?_, ?_, ?_, ?_, ?_, ?_, ?_, ?_, ?_⟩
  · intro i _; simp [Sl.free]
  · intro i _ _; rfl
  · intro i _ h; simp [Sl.free] at h
  · intro i _ h; simp [Sl.free] at h
  · intro i _ h; simp [Sl.free] at h
  · intro i _ h; simp [liveS, Sl.free] at h
  · intro i _ h; simp [lastS, Sl.free] at h
  · intro i j _ _ h; simp [liveS, Sl.free] at h
  · intro i j _ _ h; simp [lastS, Sl.free] at h
theorem rep_free : Rep (fun _ => Ob.free) (fun _ => Sl.free) := fun _ _ => ⟨rfl, rfl, rfl⟩
set_option maxRecDepth 100000 in
set_option maxHeartbeats 1000000 in
theorem glground_any (w : World) :
    Calls Tryz.prog 9 #[] w fun e w' => ∃ d s t F, e = .returned (.agg #[.pointer (some ⟨d, 0, none⟩), .pointer (some ⟨t, 0, none⟩)]) ∧ TS w' t s d (fun _ => 0) (fun _ => 0) [] (fun _ => Sl.free) 0 F ∧ (∀ k, F k ∨ k = s ∨ k = t → w.heap.size ≤ k) ∧ Only (fun _ => False) w w' := by
  have oZ := (Only.refl (fun _ => False) w).alloc (.cells #[.pointer none, .pointer none] 30)
  have hZ := Has.new w #[.pointer none, .pointer none] 30
  have hsz : (w.alloc (.cells #[.pointer none, .pointer none] 30)).heap.size = w.heap.size + 1 := by simp
  have C1 := dvnew_any (w.alloc (.cells #[.pointer none, .pointer none] 30))
  rw [hsz] at C1
  have C1 := hide C1
  have OZ := hide oZ
  have HZ := hide hZ
  clear oZ hZ
  go_enter Tryz.func9, Tryz.ntmps9
  go_upto_region 1 with fail
  generalize w.alloc (.cells #[.pointer none, .pointer none] 30) = w0 at *
  generalize hk : w.heap.size = k at *
  go_wp2_with fail
  refine (unhide C1).mono ?_
  rintro e w1 ⟨rfl, hd1, ho1⟩
  have s1 := ho1.size
  have N1 : ∀ x, Ext (fun _ => False) w0 w1 x → w0.heap.size ≤ x := fun x hx => (newT hx).1
  generalize Ext (fun _ => False) w0 w1 = F at *
  have C2 := hide (open_any hd1 timg_zero)
  have HZ1 := hide ((unhide HZ).keep ho1 (fun h => h))
  have O1 := hide ((unhide OZ).trans ho1 (fun _ _ h => h))
  have HN := hide N1
  clear C1 hd1 ho1 N1 HZ OZ
  go_wp2_with fail
  refine (unhide C2).mono ?_
  rintro e w2 ⟨rfl, hO, ho2⟩
  have C3 := hide (topen_any hO rep_free inv_free)
  have HZ2 := hide ((unhide HZ1).keep ho2 (fun h => h))
  have O2 := hide ((unhide O1).trans ho2 (fun _ _ h => h))
  have s2 := ho2.size
  clear C2 hO ho2 HZ1 O1
  generalize hs' : w1.heap.size = s' at *
  go_wp2_with fail
  refine (unhide C3).mono ?_
  rintro e w3 ⟨t, rfl, htl, hT, ho3⟩
  have hZ3 := (unhide HZ2).keep ho3 (fun h => h)
  have q0 := hZ3.cell 0
  have q1 := hZ3.cell 1
  have z0 := hZ3.free 0
  have z1 := hZ3.free 1
  simp only [List.getElem?_toArray, List.getElem?_cons_zero, List.getElem?_cons_succ] at q0 q1
  have zl := hZ3.lt
  have HFin : Hid (∀ W, Only (fun y => y = k) w3 W → TS W t s' (k + 1) (fun _ => 0) (fun _ => 0) [] (fun _ => Sl.free) 0 F ∧ (∀ y, F y ∨ y = s' ∨ y = t → w.heap.size ≤ y) ∧ Only (fun _ => False) w W) := hide (fun W hw => by
    refine ⟨hT.keep hw (fun e => by omega) (fun e => by omega) (fun y hy e => by have := unhide HN y hy; omega), fun y hy => ?_, ((unhide O2).trans ho3 (fun _ _ h => h)).trans hw (fun y hy e => by omega)⟩
    rcases hy with e | e | e
    · have := unhide HN y e; omega
    · omega
    · omega)
  clear C3 hT ho3 hZ3 HZ2 O2 HN
  go_wp2_with fail
  refine bodyPost_ret (v := .agg #[.pointer (some ⟨k + 1, 0, none⟩), .pointer (some ⟨t, 0, none⟩)]) (by simp [results, Tryz.results9, go_sem, q0, q1]) rfl ⟨k + 1, s', t, F, rfl, ?_⟩
  exact unhide HFin _ (onlyS (onlyS (Only.refl (fun y => y = k) w3) _ _) _ _)
section
variable {w : World} {g t s d m : Nat} {D B : Nat → Nat} {recs : List Rec} {J : Nat → Sl} {rt : Nat} {F : Nat → Prop} {T : Gt} {S : GA}
set_option maxRecDepth 100000 in
theorem glsteps_any (hd : DevAt w d D B recs F) (t : Nat) :
    Calls Tryz.prog 14 #[.agg #[.pointer (some ⟨d, 0, none⟩), .pointer (some ⟨t, 0, none⟩)]] w fun e w' => e = .returned (.int .i64 recs.length) ∧ Only (fun _ => False) w w' := by
  have o1 : Only (fun _ => False) w (w.alloc (.cells #[.pointer (some ⟨d, 0, none⟩), .pointer (some ⟨t, 0, none⟩)] 30)) := (Only.refl _ w).alloc _
  have C1 := hide (dvsteps_any (hd.quiet o1))
  clear hd
  go_enter Tryz.func14, Tryz.ntmps14
  go_wp2_with fail
  refine (unhide C1).mono ?_
  rintro e w1 ⟨rfl, rfl⟩
  go_wp2_with fail
  go_ret
  exact ⟨rfl, o1⟩
set_option maxRecDepth 100000 in
theorem glmark_any (hd : DevAt w d D B recs F) (t : Nat) :
    Calls Tryz.prog 19 #[.agg #[.pointer (some ⟨d, 0, none⟩), .pointer (some ⟨t, 0, none⟩)]] w fun e w' => e = .returned (.tuple #[]) ∧ DevAt w' d D D [] F ∧ Only F w w' := by
  have o1 : Only (fun _ => False) w (w.alloc (.cells #[.pointer (some ⟨d, 0, none⟩), .pointer (some ⟨t, 0, none⟩)] 30)) := (Only.refl _ w).alloc _
  have C1 := hide (dvmark_any (hd.quiet o1))
  clear hd
  go_enter Tryz.func19, Tryz.ntmps19
  go_wp2_with fail
  refine (unhide C1).mono ?_
  rintro e w1 ⟨rfl, hd1, ho1⟩
  go_wp2_with fail
  go_end0
  exact ⟨rfl, hd1, (o1.mono (fun _ _ h => h.elim)).trans ho1 (fun _ _ h => h)⟩
set_option maxRecDepth 100000 in
theorem glrooted_any (h : TS w t s d D B recs J rt F) :
    Calls Tryz.prog 28 #[.agg #[.pointer (some ⟨d, 0, none⟩), .pointer (some ⟨t, 0, none⟩)]] w fun e w' => e = .returned (.bool (decide (rt ≠ 0))) ∧ Only (fun _ => False) w w' := by
  have o1 : Only (fun _ => False) w (w.alloc (.cells #[.pointer (some ⟨d, 0, none⟩), .pointer (some ⟨t, 0, none⟩)] 30)) := (Only.refl _ w).alloc _
  have C1 := hide (troot_any (h.quiet o1))
  obtain ⟨b, hb⟩ : ∃ b : Bool, decide (rt ≠ 0) = b := ⟨_, rfl⟩
  have e0 : ((rt : Int) != 0) = b := by
    rw [← hb]
    by_cases e : rt = 0
    · rw [e]; rfl
    · simp [e]
  rw [hb]
  have O1 := hide o1
  clear h hb o1
  go_enter Tryz.func28, Tryz.ntmps28
  go_wp2_with fail
  refine (unhide C1).mono ?_
  rintro e w1 ⟨rfl, rfl⟩
  clear C1
  go_wp2_with fail
  go_ret
  exact ⟨rfl, unhide O1⟩
theorem glone_any (n : Nat) (w : World) (h : 1 ≤ n) :
    Calls Tryz.prog 16 #[.int .i64 (n : Int)] w fun e w' => e = .returned (.bool true) ∧ w = w' := by
  have e0 : decide ((n : Int) ≥ 1) = true := decide_eq_true (by omega)
  have e1 : decide ((1 : Int) ≤ (n : Int)) = true := decide_eq_true (by omega)
  go_enter Tryz.func16, Tryz.ntmps16
  go_wp2_with fail
  go_ret
  exact ⟨rfl, rfl⟩
theorem glno_any (n : Nat) (w : World) :
    Calls Tryz.prog 23 #[.int .i64 (n : Int)] w fun e w' => e = .returned (.bool true) ∧ w = w' := by
  have e0 : decide ((n : Int) ≥ 0) = true := decide_eq_true (by omega)
  have e1 : decide ((0 : Int) ≤ (n : Int)) = true := decide_eq_true (by omega)
  go_enter Tryz.func23, Tryz.ntmps23
  go_wp2_with fail
  go_ret
  exact ⟨rfl, rfl⟩
set_option maxRecDepth 100000 in
theorem gllooks_any (k : Int) (w : World) :
    Calls Tryz.prog 26 #[.int .i64 k] w fun e w' => e = .returned (.bool (!chgK k)) ∧ w = w' := by
  obtain ⟨B, hB⟩ : ∃ B, (!chgK k) = B := ⟨_, rfl⟩
  rw [hB]
  unfold chgK at hB
  by_cases n2 : k = 2
  · subst n2
    have hb : B = false := by rw [← hB]; decide
    subst hb
    clear hB
    go_enter Tryz.func26, Tryz.ntmps26
    go_wp2_with fail
    go_ret
    exact ⟨rfl, rfl⟩
  have e2 : (k == 2) = false := ne_intO n2
  by_cases n4 : k = 4
  · subst n4
    have hb : B = false := by rw [← hB]; decide
    subst hb
    clear hB
    go_enter Tryz.func26, Tryz.ntmps26
    go_wp2_with fail
    go_ret
    exact ⟨rfl, rfl⟩
  have e4 : (k == 4) = false := ne_intO n4
  by_cases n5 : k = 5
  · subst n5
    have hb : B = false := by rw [← hB]; decide
    subst hb
    clear hB
    go_enter Tryz.func26, Tryz.ntmps26
    go_wp2_with fail
    go_ret
    exact ⟨rfl, rfl⟩
  have e5 : (k == 5) = false := ne_intO n5
  by_cases n6 : k = 6
  · subst n6
    have hb : B = false := by rw [← hB]; decide
    subst hb
    clear hB
    go_enter Tryz.func26, Tryz.ntmps26
    go_wp2_with fail
    go_ret
    exact ⟨rfl, rfl⟩
  have e6 : (k == 6) = false := ne_intO n6
  by_cases n7 : k = 7
  · subst n7
    have hb : B = false := by rw [← hB]; decide
    subst hb
    clear hB
    go_enter Tryz.func26, Tryz.ntmps26
    go_wp2_with fail
    go_ret
    exact ⟨rfl, rfl⟩
  have e7 : (k == 7) = false := ne_intO n7
  by_cases n8 : k = 8
  · subst n8
    have hb : B = false := by rw [← hB]; decide
    subst hb
    clear hB
    go_enter Tryz.func26, Tryz.ntmps26
    go_wp2_with fail
    go_ret
    exact ⟨rfl, rfl⟩
  have e8 : (k == 8) = false := ne_intO n8
  by_cases n9 : k = 9
  · subst n9
    have hb : B = false := by rw [← hB]; decide
    subst hb
    clear hB
    go_enter Tryz.func26, Tryz.ntmps26
    go_wp2_with fail
    go_ret
    exact ⟨rfl, rfl⟩
  have e9 : (k == 9) = false := ne_intO n9
  by_cases n12 : k = 12
  · subst n12
    have hb : B = false := by rw [← hB]; decide
    subst hb
    clear hB
    go_enter Tryz.func26, Tryz.ntmps26
    go_wp2_with fail
    go_ret
    exact ⟨rfl, rfl⟩
  have e12 : (k == 12) = false := ne_intO n12
  have hb : B = true := by rw [← hB, e2, e4, e5, e6, e7, e8, e9, e12]; rfl
  subst hb
  clear hB
  go_enter Tryz.func26, Tryz.ntmps26
  go_wp2_with fail
  go_ret
  exact ⟨rfl, rfl⟩
/-- What Register answers. -/
def RgP (w : World) (rv : Value) (e : Ending) (w' : World) : Prop := ∃ v l', e = .returned v ∧ OwnF w' v l' ∧ l'.length ≤ 9 ∧ (∀ y, v.ownBlock = some y → rv.ownBlock = some y ∨ w.heap.size ≤ y) ∧ Only (fun y => rv.ownBlock = some y) w w'
theorem RgP.same {rv : Value} {l : List Fl} {w w' : World} (h : OwnF w rv l) (hl : l.length ≤ 9) (ho : Only (fun _ => False) w w') : RgP w rv (.returned rv) w' := ⟨rv, l, rfl, h.keep ho (fun _ _ h => h), hl, fun y hy => .inl hy, ho.mono (fun _ _ h => h.elim)⟩
theorem RgP.none {rv : Value} {w w' : World} (ho : Only (fun _ => False) w w') : RgP w rv (.returned (.slice none 0 0)) w' := ⟨_, [], rfl, OwnF.nil w', by simp, by simp [Value.ownBlock], ho.mono (fun _ _ h => h.elim)⟩
set_option maxRecDepth 100000 in
set_option maxHeartbeats 1000000 in
theorem glreg_any {rv : Value} {l : List Fl} (h : OwnF w rv l) (hl : l.length ≤ 9) (ok oa ob oc : Int) (os ot : ByteArray) :
    Calls Tryz.prog 24 #[rv, .agg #[.int .i64 ok, .int .i64 oa, .int .i64 ob, .int .i64 oc, .string os, .string ot]] w (RgP w rv) := by
  obtain ⟨i0, hi0, hz0, hz1, hz2⟩ := info_parts Tryz.infoFile
  have o1 : Only (fun _ => False) w (w.alloc (.cells #[.int .i64 ok, .int .i64 oa, .int .i64 ob, .int .i64 oc, .string os, .string ot] 42)) := (Only.refl _ w).alloc _
  have hB := Has.new w #[.int .i64 ok, .int .i64 oa, .int .i64 ob, .int .i64 oc, .string os, .string ot] 42
  have x0 := hB.cell 0
  have x1 := hB.cell 1
  have x4 := hB.cell 4
  have x5 := hB.cell 5
  simp only [List.getElem?_toArray, List.getElem?_cons_zero, List.getElem?_cons_succ] at x0 x1 x4 x5
  have xl := hB.lt
  have O1 := hide o1
  have H0 := hide h
  have own2 : (w.alloc (.cells #[.int .i64 ok, .int .i64 oa, .int .i64 ob, .int .i64 oc, .string os, .string ot] 42)).ownsRow 0 78 3 rv l.length (flCells l) := h.keep o1 (fun _ _ h => h)
  have hrlt := hide (fun y (hy : rv.ownBlock = some y) => ownsRow_lt h y hy)
  obtain ⟨ra, rc, rfl⟩ := ownsRow_shape h
  clear h hB o1
  by_cases h1 : ok = 1
  · subst h1
    go_enter Tryz.func24, Tryz.ntmps24
    go_upto_region 1 with fail
    generalize hW : w.alloc (.cells #[.int .i64 1, .int .i64 oa, .int .i64 ob, .int .i64 oc, .string os, .string ot] 42) = W at *
    clear hW
    by_cases h8 : 8 < l.length
    · have d1 : decide ((8 : Int) < (l.length : Int)) = true := decide_eq_true (by omega)
      have d2 : decide ((l.length : Int) > 8) = true := decide_eq_true (by omega)
      clear own2
      go_wp2_with fail
      go_ret
      exact RgP.same (unhide H0) hl (unhide O1)
    · have d1 : decide ((8 : Int) < (l.length : Int)) = false := decide_eq_false (by omega)
      have d2 : decide ((l.length : Int) > 8) = false := decide_eq_false (by omega)
      have hsW := (unhide O1).size
      go_wp2_with (at_builtin; refine wpList_append2 _ rfl _ _ 36 rfl 78 i0 _ 3 40 Tryz.underlying36 hi0 hz0 hz1 hz2 rfl (by decide) _ _ _ rfl (own2.alloc _) ⟨W.heap.size, 0, none⟩ 1 1 [.string os, .string ot, .int .i64 oa] rfl rfl ?d1 ?d2 ?d3 ?d4 ?_)
      try (case d1 => exact news_ok _ _ _ _ rfl)
      case d2 => first | (intro u hu; simp at hu; rcases hu with rfl | rfl | rfl <;> rfl) | exact ⟨rfl, rfl, rfl⟩ | rfl
      case d3 => unfold maxLen; omega
      case d4 => omega
      intro v7 w7 hown hgrow hwhere
      have hfin : RgP w (.slice ra l.length rc) (.returned v7) w7 := by
        refine ⟨v7, l ++ [⟨os, ot, oa⟩], rfl, ?_, by simp; omega, fun y hy => ?_, ?_⟩
        · unfold OwnF
          rw [flCells_snoc, List.length_append, List.length_singleton]
          exact hown
        · rcases hwhere y hy with e | e
          · exact .inl e
          · exact .inr (by omega)
        · exact (((unhide O1).mono (T := fun y => (Value.slice ra l.length rc).ownBlock = some y) (fun _ _ h => h.elim)).alloc _).grown hgrow (fun y hy _ => hy)
      have HF := hide hfin
      clear hown hgrow hwhere own2 hfin
      go_wp2_with fail
      go_ret
      exact unhide HF
  · have e1 : (ok == 1) = false := ne_intO h1
    by_cases h2 : ok = 2
    · subst h2
      clear own2
      go_enter Tryz.func24, Tryz.ntmps24
      go_wp2_with fail
      go_ret
      exact RgP.none (unhide O1)
    · have e2 : (ok == 2) = false := ne_intO h2
      by_cases h7 : ok = 7
      · subst h7
        clear own2
        go_enter Tryz.func24, Tryz.ntmps24
        go_wp2_with fail
        go_ret
        exact RgP.none (unhide O1)
      · have e7 : (ok == 7) = false := ne_intO h7
        clear own2
        go_enter Tryz.func24, Tryz.ntmps24
        go_wp2_with fail
        go_ret
        exact RgP.same (unhide H0) hl (unhide O1)
set_option maxRecDepth 100000 in
set_option maxHeartbeats 2000000 in
theorem glafter_any (hd : DevAt w d D B recs F) (t : Nat) (kk : Int) (hkeys : ∀ r ∈ recs, r.1 < 145) (hrl : recs.length ≤ 1000) (hS : Shows (replayB B (recs.take kk.toNat)) rt J) (hI : Inv J) :
    Calls Tryz.prog 27 #[.agg #[.pointer (some ⟨d, 0, none⟩), .pointer (some ⟨t, 0, none⟩)], .int .i64 kk] w fun e w' => ∃ d' s' t' F', e = .returned (.agg #[.pointer (some ⟨d', 0, none⟩), .pointer (some ⟨t', 0, none⟩)]) ∧ TS w' t' s' d' (replayB B (recs.take kk.toNat)) (replayB B (recs.take kk.toNat)) [] J rt F' ∧ (∀ k, F' k ∨ k = s' ∨ k = t' → w.heap.size ≤ k) ∧ Only (fun _ => False) w w' := by
  obtain ⟨po, hIm, hRp⟩ := hS
  have o1 : Only (fun _ => False) w ((w.alloc (.cells #[.pointer (some ⟨d, 0, none⟩), .pointer (some ⟨t, 0, none⟩)] 30)).alloc (.cells #[.pointer none, .pointer none] 30)) := ((Only.refl _ w).alloc _).alloc _
  have hA := (Has.new w #[.pointer (some ⟨d, 0, none⟩), .pointer (some ⟨t, 0, none⟩)] 30).keep ((Only.refl (fun _ => False) (w.alloc (.cells #[.pointer (some ⟨d, 0, none⟩), .pointer (some ⟨t, 0, none⟩)] 30))).alloc (.cells #[.pointer none, .pointer none] 30)) (fun h => h)
  have hZ := Has.new (w.alloc (.cells #[.pointer (some ⟨d, 0, none⟩), .pointer (some ⟨t, 0, none⟩)] 30)) #[.pointer none, .pointer none] 30
  have hsz : (w.alloc (.cells #[.pointer (some ⟨d, 0, none⟩), .pointer (some ⟨t, 0, none⟩)] 30)).heap.size = w.heap.size + 1 := by simp
  rw [hsz] at hZ
  have C1 := hide (dvafter_any (hd.quiet o1) kk hkeys hrl)
  have x0 := hA.cell 0
  simp only [List.getElem?_toArray, List.getElem?_cons_zero, List.getElem?_cons_succ] at x0
  have xl := hA.lt
  have O1 := hide o1
  have HZ := hide hZ
  have HI := hide hIm
  have HR := hide hRp
  have HV := hide hI
  clear hd hkeys hrl hIm hRp hI o1 hA hZ hsz
  generalize replayB B (recs.take kk.toNat) = D0 at *
  go_enter Tryz.func27, Tryz.ntmps27
  go_upto_region 1 with fail
  generalize (w.alloc (.cells #[.pointer (some ⟨d, 0, none⟩), .pointer (some ⟨t, 0, none⟩)] 30)).alloc (.cells #[.pointer none, .pointer none] 30) = w0 at *
  generalize hk : w.heap.size = k at *
  have hk0 := (unhide HZ).lt
  go_wp2_with fail
  refine (unhide C1).mono ?_
  rintro e w1 ⟨rfl, hd1, ho1⟩
  have s1 := ho1.size
  have HN : Hid (∀ x, Ext (fun _ => False) w0 w1 x → w0.heap.size ≤ x) := hide (fun x hx => (newT hx).1)
  generalize Ext (fun _ => False) w0 w1 = F1 at *
  have C2 := hide (dvmark_any hd1)
  have HZ1 := hide ((unhide HZ).keep ho1 (fun h => h))
  have P1 := hide ((unhide O1).trans ho1 (fun _ _ h => h))
  clear C1 hd1 ho1 HZ O1 x0 xl
  generalize hd' : w0.heap.size = d' at *
  go_wp2_with fail
  refine (unhide C2).mono ?_
  rintro e w2 ⟨rfl, hd2, ho2⟩
  have s2 := ho2.size
  have HZ2 := hide ((unhide HZ1).keep ho2 (fun h => by have := unhide HN _ h; omega))
  have P2 := hide ((unhide P1).trans ho2 (fun y hy h => by have := unhide HN _ h; omega))
  have C3 := hide (open_any hd2 (unhide HI))
  clear C2 hd2 ho2 HZ1 P1
  go_wp2_with fail
  refine (unhide C3).mono ?_
  rintro e w3 ⟨rfl, hO, ho3⟩
  have s3 := ho3.size
  have HZ3 := hide ((unhide HZ2).keep ho3 (fun h => h))
  have P3 := hide ((unhide P2).trans ho3 (fun _ _ h => h))
  have C4 := hide (topen_any hO (unhide HR) (unhide HV))
  clear C3 hO ho3 HZ2 P2
  generalize hs' : w2.heap.size = s' at *
  go_wp2_with fail
  refine (unhide C4).mono ?_
  rintro e w4 ⟨t', rfl, htl, hT, ho4⟩
  have hZ4 := (unhide HZ3).keep ho4 (fun h => h)
  have q0 := hZ4.cell 0
  have q1 := hZ4.cell 1
  have z0 := hZ4.free 0
  have z1 := hZ4.free 1
  simp only [List.getElem?_toArray, List.getElem?_cons_zero, List.getElem?_cons_succ] at q0 q1
  have zl := hZ4.lt
  have HFin : Hid (∀ W, Only (fun y => y = k + 1) w4 W → TS W t' s' d' D0 D0 [] J rt F1 ∧ (∀ y, F1 y ∨ y = s' ∨ y = t' → w.heap.size ≤ y) ∧ Only (fun _ => False) w W) := hide (fun W hw => by
    refine ⟨hT.keep hw (fun e => by omega) (fun e => by omega) (fun y hy e => by have := unhide HN y hy; omega), fun y hy => ?_, ((unhide P3).trans ho4 (fun _ _ h => h)).trans hw (fun y hy e => by omega)⟩
    rcases hy with e | e | e
    · have := unhide HN y e; omega
    · omega
    · omega)
  clear C4 hT ho4 hZ4 HZ3 P3 HN
  go_wp2_with fail
  refine bodyPost_ret (v := .agg #[.pointer (some ⟨d', 0, none⟩), .pointer (some ⟨t', 0, none⟩)]) (by simp [results, Tryz.results27, go_sem, q0, q1]) rfl ⟨d', s', t', F1, rfl, ?_⟩
  exact unhide HFin _ (onlyS (onlyS (Only.refl (fun y => y = k + 1) w4) _ _) _ _)
end
end Go.Proofs.Qxb6500417aGreat
