/-
  OWN WORK. QUERY's LAW: below.go: Ground, Mark, Steps, After (written by tools/gen_xbq.py).
-/
import Derived.Test.Qxb6500412aGreatS47
import Derived.Test.Qxb6500412aGreatXMu0
namespace Go.Proofs.Qxb6500412aGreat
open Go.RowKit Go.PlainAid
set_option linter.unusedSimpArgs false
set_option linter.unusedVariables false

section
variable {q : Gnd} {w : World} {S : Vu}
theorem xdone_A {rs : List (Nat × ByteArray)} {com : List ByteArray} {wa wb : World} {k : Nat} (h : (q.done rs com wa wb).A k) : q.A k ∨ wa.heap.size ≤ k := by
  rcases Gnd.done_A h with h | h
  · exact .inl h
  · exact .inr h.1
theorem xS_D {w w' : World} (h : Only q.S w w') : Only q.D w w' := h.mono (fun k _ h => Gnd.S_D h)
/-- What Open leaves over a recovered ground (or over the first). -/
def OpnP (w : World) (D : Db) (y : Ending) (w' : World) (q : Gnd) : Prop :=
  ∃ x' q' S' T', y = .returned (.pointer (some ⟨x', 0, none⟩)) ∧ w.heap.size ≤ x' ∧ ST q' w' x' false S' ∧ Lay S' T' ∧ dbOf T' = D ∧ ComF q'.com S' ∧ CutX q'.base q'.recs (fun X => ComD X D) (fun X => ComD X D) ∧ q'.d = q.d ∧ q'.f = q.f ∧ (∀ k, q'.A k → q.A k ∨ w.heap.size ≤ k) ∧ Only q.D w w'
theorem eopen_any {D : Db} (A : FV q w false S) (cf : ComF q.com S) (hD : (∃ T, Lay S T ∧ dbOf T = D) ∨ (S = (fun _ => none) ∧ D = [])) (cu : CutX q.base q.recs (fun X => ComD X D) (fun X => ComD X D)) (hb : q.blk = replay q.base q.recs) (hrc : q.recs.length ≤ 300) : Calls Tryz.prog 44 #[.pointer (some ⟨q.f, 0, none⟩)] w fun y w' => OpnP w D y w' q := by
  rcases hD with ⟨T, la, hd⟩ | ⟨rfl, rfl⟩
  · refine (eopen_used A (by rw [la.cat]; simp)).mono ?_
    rintro y w' ⟨x', rfl, hx, st, o⟩
    exact ⟨x', q, S, T, rfl, hx, st, la, hd, cf, cu, rfl, rfl, fun k hk => .inl hk, xS_D o⟩
  · refine (eopen_blank A hrc).mono ?_
    rintro y w' ⟨x', rs, com, wa, wb, rfl, hx, hwa, st, cf', ci, o⟩
    have lc : com.length = 80 := st.fv.lcom
    have hQ : ComD com [] := ⟨_, cf'.toS, .inl ⟨[], Lay.fresh, rfl⟩⟩
    have hP : ComD q.com [] := ⟨_, cf.toS, .inr ⟨rfl, rfl⟩⟩
    rw [hb] at ci
    exact ⟨x', q.done rs com wa wb, _, [], rfl, hx, st, Lay.fresh, rfl, cf', CutX.join cu ci A.lcom lc hP hQ (by omega), rfl, rfl, fun k hk => by
      rcases xdone_A hk with d | d
      · exact .inl d
      · exact .inr (by omega), o⟩
set_option maxRecDepth 100000 in
theorem enew_any {D : Db} (A : FV q w false S) (cf : ComF q.com S) (hD : (∃ T, Lay S T ∧ dbOf T = D) ∨ (S = (fun _ => none) ∧ D = [])) (cu : CutX q.base q.recs (fun X => ComD X D) (fun X => ComD X D)) (hb : q.blk = replay q.base q.recs) (hrc : q.recs.length ≤ 300) : Calls Tryz.prog 33 #[.pointer (some ⟨q.f, 0, none⟩)] w fun y w' => OpnP w D y w' q := by
  have C := hide (eopen_any A cf hD cu hb hrc)
  clear A cf hD cu hb
  go_enter Tryz.func33, Tryz.ntmps33
  go_wp2_with fail
  refine (unhide C).mono ?_
  rintro y w' ⟨x', q', S', T', rfl, h⟩
  have HP := hide (show OpnP w D (.returned (.pointer (some ⟨x', 0, none⟩))) w' q from ⟨x', q', S', T', rfl, h⟩)
  clear h C
  go_wp2_with fail
  go_ret
  exact unhide HP
end
theorem Xs0.lk0 (s : Nat) (nm : ByteArray) : Xs0.lk s nm = 0 := by
  unfold Xs.lk
  split
  · rfl
  · split
    · rfl
    · split <;> rfl
theorem xs0_ok {D : Db} (G : DGd D) : XOk Xs0 D := by
  refine ⟨G, ⟨fun i hi => ⟨fun h => (by cases h), fun ⟨s, _, h⟩ => absurd rfl h⟩, fun i hi _ => rfl, fun i hi h => (by cases h), fun i j hi hj h => (by cases h), fun i s hi hs => ⟨Int.le_refl _, by show (0 : Int) ≤ 2; omega⟩, fun i s hi hs h => absurd rfl h, fun i s o hi hs ho hne h => rfl⟩, fun s hs => WsG.nil G, fun s hs c hc => (by cases hc), fun s hs h => rfl⟩
theorem RX.new {q : Gnd} {w : World} {g x : Nat} {S : Vu} {T : List (Tb × Hd)} (st : ST q w x false S) (la : Lay S T) (cf : ComF q.com S) (xm : XM w g x Xs0) (hg : ¬ q.A g ∧ g ≠ x) : RX q w g x (Mu0 (dbOf T)) (fun k => k = g) := by
  have hM : ∀ k, ¬ Xs0.M k := fun k ⟨s, _, h⟩ => by cases h
  have hI : ∀ k, ¬ Xs0.I k := fun k ⟨s, _, h⟩ => by
    obtain ⟨c, hc, _⟩ := h
    cases hc
  refine ⟨⟨Xs0, S, T, ⟨st, xm, fun k hk => ?_⟩, la, cf, xs0_ok la.dgd, ⟨rfl, fun s hs => rfl, fun s nm hs => (Xs0.lk0 s nm).symm, fun s hs => (seeD_nil _).symm⟩, fun k hk => ?_⟩, fun k hk => ?_⟩
  · rcases hk with h | h | h
    · rw [h]; exact hg
    · exact absurd h (hM k)
    · exact absurd h (hI k)
  · rcases hk with h | h | h
    · exact h
    · exact absurd h (hM k)
    · exact absurd h (hI k)
  · have e : k = g := hk
    subst e
    exact ⟨hg.1, hg.2, xm.lt k (.inl rfl)⟩
/-- The lower layers, built: they show D. -/
def BlQ (w : World) (D : Db) (e : Ending) (w' : World) : Prop := ∃ q x g, e = .returned (jbV q.d g) ∧ RX q w' g x (Mu0 D) (fun k => k = g) ∧ CutX q.base q.recs (fun X => ComD X D) (fun X => ComD X D) ∧ (∀ k, q.A k ∨ k = x ∨ k = g → w.heap.size ≤ k) ∧ Only (fun _ => False) w w'
set_option maxRecDepth 100000 in
theorem xlsteps_any {d : Nat} {blk base : List ByteArray} {recs : List (Nat × ByteArray)} {F : Nat → Prop} {w : World} (f : Nat) (hd : DiskAt w d blk base recs F) :
    Calls Tryz.prog 12 #[jbV d f] w fun e w' => e = .returned (.int .i64 recs.length) ∧ Only (fun _ => False) w w' := by
  have o1 : Only (fun _ => False) w (w.alloc (.cells (jbC d f) 30)) := (Only.refl _ w).alloc _
  have C1 := hide (dsteps_any d blk base recs F _ (hd.keep o1 (fun _ _ h => h)))
  unfold jbC at C1 o1
  unfold jbV jbC
  go_enter Tryz.func12, Tryz.ntmps12
  go_wp2_with fail
  refine (unhide C1).mono ?_
  rintro e w1 ⟨rfl, rfl⟩
  go_wp2
  go_ret
  exact ⟨rfl, o1⟩
set_option maxRecDepth 100000 in
theorem xlmark_any {d : Nat} {blk base : List ByteArray} {recs : List (Nat × ByteArray)} {F : Nat → Prop} {w : World} (f : Nat) (hd : DiskAt w d blk base recs F) :
    Calls Tryz.prog 18 #[jbV d f] w fun e w' => e = .returned (.tuple #[]) ∧ DiskAt w' d blk blk [] (Ext F w w') ∧ Only F w w' := by
  have o1 : Only (fun _ => False) w (w.alloc (.cells (jbC d f) 30)) := (Only.refl _ w).alloc _
  have C1 := hide (dmark_any d blk base recs F _ (hd.keep o1 (fun _ _ h => h)))
  have hFi := hd.inn
  unfold jbC at C1 o1
  unfold jbV jbC
  go_enter Tryz.func18, Tryz.ntmps18
  go_wp2_with fail
  refine (unhide C1).mono ?_
  rintro e w1 ⟨rfl, hd1, ho1⟩
  go_wp2
  go_end0
  have ho2 : Only F w w1 := (o1.mono (fun _ _ h => h.elim)).trans ho1 (fun _ _ h => h)
  refine ⟨rfl, hd1.mono (fun k hk => ?_) (Ext.in hFi ho2.size), ho2⟩
  rcases hk with hk | hk
  · exact .inl hk
  · simp at hk; exact .inr ⟨by omega, hk.2⟩
set_option maxRecDepth 100000 in
set_option maxHeartbeats 1000000 in
theorem xlground_any (w : World) :
    Calls Tryz.prog 10 #[] w (BlQ w []) := by
  go_enter Tryz.func10, Tryz.ntmps10
  go_wp2_with fail
  refine (dnew_any _).mono ?_
  rintro e w1 ⟨rfl, hd1, ho1⟩
  simp only [World.size_alloc] at hd1
  have k1 := (Has.new w #[.pointer none, .pointer none] 30).keep ho1 (fun h => h)
  have s1 := ho1.size
  simp only [World.size_alloc] at s1
  go_wp2_with fail
  refine (wnew_any _ _).mono ?_
  rintro e w2 ⟨rfl, hl2, ho2⟩
  have s2 := ho2.size
  have k2 := k1.keep ho2 (fun h => h)
  have hFl : ∀ k, Ext (fun _ => False) (w.alloc (.cells #[.pointer none, .pointer none] 30)) w1 k → w.heap.size + 1 ≤ k ∧ k < w1.heap.size := by
    intro k hk; rcases hk with hk | hk
    · exact hk.elim
    · simp at hk; exact hk
  have hGl : ∀ k, Ext (fun _ => False) w1 w2 k → w1.heap.size ≤ k := Ext.le (fun _ h => h.elim) (Nat.le_refl _)
  have L2 : LG w2 w1.heap.size (w.heap.size + 1) (zeros 153) (zeros 153) [] false (zeros 80) (zeros 80) (Ext (fun _ => False) (w.alloc (.cells #[.pointer none, .pointer none] 30)) w1) (Ext (fun _ => False) w1 w2) :=
    ⟨⟨[], nots 80, hl2, ginv_zero, by simp⟩, hd1.keep ho2 (fun _ _ h => h), fun k hk hg => by have := hFl k hk; have := hGl k hg; omega⟩
  generalize Ext (fun _ => False) (w.alloc (.cells #[.pointer none, .pointer none] 30)) w1 = F at *
  generalize Ext (fun _ => False) w1 w2 = G at *
  have C3 := hide (pnew_any L2)
  go_wp2_with fail
  refine (unhide C3).mono ?_
  rintro e w3 ⟨rfl, p3, ho3⟩
  have s3 := ho3.size
  have k3 := k2.keep ho3 (fun h => h)
  have C4 := hide (vnew_any p3 comS_zero (by simp))
  have o123 : Only (fun _ => False) w w3 := ((((Only.refl _ w).alloc _).trans ho1 (fun _ _ h => h)).trans ho2 (fun _ _ h => h)).trans ho3 (fun _ _ h => h)
  clear C3 k1 k2 L2 hd1 hl2 ho1 ho2 ho3
  go_wp2_with fail
  refine (unhide C4).mono ?_
  rintro e w4 ⟨f, rs, com', F', rfl, hf, hF', A4, cf, CI, o4⟩
  have s4 := o4.size
  have k4 := k3.keep o4 (fun h => by
    rcases h with h | h | h
    · have := hFl _ h; omega
    · have := hGl _ h; omega
    · omega)
  have o14 : Only (fun _ => False) w w4 := o123.trans o4 (fun i hi h => by
    rcases h with h | h | h
    · have := hFl _ h; omega
    · have := hGl _ h; omega
    · omega)
  have qA : ∀ k, Gnd.A ⟨f, w2.heap.size, w1.heap.size, w.heap.size + 1, replay (zeros 153) rs, zeros 153, [] ++ rs, com', F', G⟩ k → w.heap.size + 1 ≤ k := by
    rintro k (h | h | h | h)
    · rcases hF' k h with c | c
      · have := hFl k c; omega
      · omega
    · have := hGl k h; omega
    · have : k = w2.heap.size := h
      omega
    · have : k = f := h
      omega
  have cu0 : CutX (zeros 153) ([] ++ rs) (fun X => ComD X []) (fun X => ComD X []) := by
    rw [List.nil_append]
    exact CutInv.toX CI (by simp) A4.lcom ⟨_, comS_zero, .inr ⟨rfl, rfl⟩⟩ ⟨_, cf.toS, .inr ⟨rfl, rfl⟩⟩
  have hrs := CI.short
  have C5 := hide (enew_any (D := []) A4 cf (.inr ⟨rfl, rfl⟩) cu0 (by rw [List.nil_append]) (by show ([] ++ rs).length ≤ 300; rw [List.nil_append]; omega))
  clear C4 A4 cf CI cu0
  go_wp2_with fail
  refine (unhide C5).mono ?_
  rintro y w5 ⟨x', q', S', T', rfl, hx', st5, la5, hd5, cf5, cu5, hqd, hqf, hqA, o5⟩
  have k5 := k4.keep o5 (fun h => by have := qA _ (Gnd.D_A h); omega)
  have o15 : Only (fun _ => False) w w5 := o14.trans o5 (fun i hi h => by have := qA _ (Gnd.D_A h); omega)
  have CX := hide (xnew_any x' w5)
  have hqA2 : ∀ k, q'.A k ∨ k = x' → w.heap.size + 1 ≤ k := fun k h => by
    rcases h with h | h
    · rcases hqA k h with h | h
      · exact qA k h
      · omega
    · omega
  have HA5 := hide (And.intro st5 (And.intro la5 (And.intro hd5 (And.intro cf5 (And.intro cu5 (And.intro hqd hqA2))))))
  have HK5 := hide k5
  have HO := hide o15
  clear st5 la5 hd5 cf5 cu5 hqd hqf hqA hqA2 qA C5 k5 o15
  go_wp2_with fail
  refine (unhide CX).mono ?_
  rintro y w6 ⟨gm, rfl, hgm, xm, o6⟩
  have k5 := unhide HK5
  have k6 := k5.keep o6 (fun e => e)
  have c0 := k6.cell 0
  have c1 := k6.cell 1
  have z0 := k6.free 0
  have z1 := k6.free 1
  have zl := k6.lt
  have HX := hide (And.intro xm (And.intro hgm o6))
  have HK6 := hide k6
  clear CX xm k5 o6 hgm k6
  go_wp2_with fail
  obtain ⟨st5, la5, hd5, cf5, cu5, hqd, hqA2⟩ := unhide HA5
  have hqd : q'.d = w.heap.size + 1 := hqd
  have xm := (unhide HX).1
  have hgm := (unhide HX).2.1
  have o6 := (unhide HX).2.2
  have kz := ((unhide HK6).setCell 0 (.pointer (some ⟨w.heap.size + 1, 0, none⟩))).setCell 1 (.pointer (some ⟨gm, 0, none⟩))
  have q0 := kz.cell 0
  have q1 := kz.cell 1
  have oz : Only (fun k => k = w.heap.size) w6 ((w6.setCell ⟨w.heap.size, 0, none⟩ (.pointer (some ⟨w.heap.size + 1, 0, none⟩))).setCell ⟨w.heap.size, 1, none⟩ (.pointer (some ⟨gm, 0, none⟩))) :=
    ((Only.refl (fun k => k = w.heap.size) w6).setCell (p := ⟨w.heap.size, 0, none⟩) (fun _ => rfl) _).setCell (p := ⟨w.heap.size, 1, none⟩) (fun _ => rfl) _
  have glt := And.intro st5.fv.Alt st5.has.lt
  have rx0 : RX q' w6 gm x' (Mu0 (dbOf T')) (fun k => k = gm) := RX.new (st5.keep o6 (fun _ _ e => e)) la5 cf5 xm ⟨fun c => by have := glt.1 _ c; omega, by have := glt.2; omega⟩
  have zK := (unhide HK5).lt
  have rx := rx0.keep oz (fun b hb e => by
    have e' : b = w.heap.size := e
    rcases hb with c | c | c
    · have := hqA2 b (.inl c); omega
    · have := hqA2 b (.inr c); omega
    · have c' : b = gm := c; omega)
  rw [hd5] at rx
  simp at q0 q1
  refine bodyPost_ret (v := jbV (w.heap.size + 1) gm) (by simp [results, Tryz.results10, go_sem, q0, q1, jbV, jbC]) rfl ⟨q', x', gm, by rw [hqd], rx, cu5, fun k hk => ?_, ((unhide HO).trans o6 (fun _ _ e => e)).trans oz (fun i hi e => by omega)⟩
  rcases hk with c | c | c
  · have := hqA2 k (.inl c); omega
  · have := hqA2 k (.inr c); omega
  · have := (unhide HO).size; omega
set_option maxRecDepth 100000 in
set_option maxHeartbeats 1000000 in
theorem xlafter_any {d : Nat} {blk base : List ByteArray} {recs : List (Nat × ByteArray)} {F : Nat → Prop} {P Q : List ByteArray → Prop} {D : Db} {w : World} (f : Nat) (kk : Int) (hd : DiskAt w d blk base recs F) (hcu : CutX base recs P Q) {X : List ByteArray} (lX : X.length = 80) (hX : Shows (recov (replay base (recs.take kk.toNat))) X) (hR : ComD X D) {S : Vu} (hS : ComS X S) (hD : (∃ T, Lay S T ∧ dbOf T = D) ∨ (S = (fun _ => none) ∧ D = [])) :
    Calls Tryz.prog 14 #[jbV d f, .int .i64 kk] w (BlQ w D) := by
  have o1 : Only (fun _ => False) w ((w.alloc (.cells (jbC d f) 30)).alloc (.cells #[.pointer none, .pointer none] 30)) := ((Only.refl _ w).alloc _).alloc _
  have hl146 := hcu.short
  have C1 := hide (dafter_any d blk base recs F kk _ (hd.keep o1 (fun _ _ h => h)) hcu.keys (by omega))
  have kk1 : Has ((w.alloc (.cells (jbC d f) 30)).alloc (.cells #[.pointer none, .pointer none] 30)) (w.heap.size + 1) #[.pointer none, .pointer none] 30 := Has.new' _ _ _ _ (by simp)
  have hDs : ∀ x ∈ replay base (recs.take kk.toNat), x.size = 128 := hcu.image_sz _
  have HC := hide (hcu.again kk.toNat lX hX (R := fun X => ComD X D) hR)
  have hI := hcu.inv kk.toNat lX hX
  generalize replay base (recs.take kk.toNat) = D0 at *
  unfold jbC at C1 o1 kk1
  unfold jbV jbC
  have hsz : ((w.alloc (.cells #[.pointer (some ⟨d, 0, none⟩), .pointer (some ⟨f, 0, none⟩)] 30)).alloc (.cells #[.pointer none, .pointer none] 30)).heap.size = w.heap.size + 1 + 1 := by simp
  go_enter Tryz.func14, Tryz.ntmps14
  go_wp2_with fail
  refine (unhide C1).mono ?_
  rintro e w1 ⟨rfl, hd1, ho1⟩
  rw [hsz] at hd1
  have s1 := ho1.size
  rw [hsz] at s1
  have hF1 : ∀ k, Ext (fun _ => False) ((w.alloc (.cells #[.pointer (some ⟨d, 0, none⟩), .pointer (some ⟨f, 0, none⟩)] 30)).alloc (.cells #[.pointer none, .pointer none] 30)) w1 k → w.heap.size + 1 + 1 ≤ k := Ext.le (fun _ h => h.elim) (by rw [hsz]; exact Nat.le_refl _)
  have k1 := kk1.keep ho1 (fun h => h)
  have oA := o1.trans ho1 (fun _ _ h => h)
  generalize Ext (fun _ => False) ((w.alloc (.cells #[.pointer (some ⟨d, 0, none⟩), .pointer (some ⟨f, 0, none⟩)] 30)).alloc (.cells #[.pointer none, .pointer none] 30)) w1 = F1 at *
  have C2 := hide (dmark_any _ _ _ _ _ w1 hd1)
  clear C1 kk1 o1 ho1
  go_wp2_with fail
  refine (unhide C2).mono ?_
  rintro e w2 ⟨rfl, hd2, ho2⟩
  have s2 := ho2.size
  have k2 := k1.keep ho2 (fun h => by have := hF1 _ h; omega)
  have hF2 : ∀ k, Ext F1 w1 w2 k → w.heap.size + 1 + 1 ≤ k := Ext.le hF1 (by omega)
  have oB : Only (fun _ => False) w w2 := oA.trans ho2 (fun i hi h => by have := hF1 _ h; omega)
  have C3 := hide (wopen_any _ D0 D0 [] _ w2 hd2 hDs (by simp))
  go_wp2_with fail
  refine (unhide C3).mono ?_
  rintro e w3 ⟨l', F4, G4, rfl, hd3, hl3, ho3, hF4, hG4, hFG4⟩
  rw [List.nil_append] at hd3
  have hrv : replay D0 (recRecs D0) = recov D0 := rfl
  rw [hrv] at hd3
  have s3 := ho3.size
  have k3 := k2.keep ho3 (fun h => by have := hF2 _ h; omega)
  have oC : Only (fun _ => False) w w3 := oB.trans ho3 (fun i hi h => by have := hF2 _ h; omega)
  have hFl : ∀ k, F4 k → w.heap.size + 1 + 1 ≤ k := fun k hk => Ext.le hF2 (by omega) k (hF4 k hk)
  have hGl : ∀ k, G4 k → w.heap.size + 1 + 1 ≤ k := fun k hk => by have := hG4 k hk; omega
  have L3 : LG w3 l' (w.heap.size + 1 + 1) (recov D0) D0 (recRecs D0) false X X F4 G4 := ⟨⟨[], nots 80, hl3, hI, by simp⟩, hd3, hFG4⟩
  have C4 := hide (popen_any L3)
  clear C2 C3 hrv hd3 hl3 L3 hd1 hd2
  go_wp2_with fail
  refine (unhide C4).mono ?_
  rintro e w4 ⟨rfl, p4, ho4⟩
  have s4 := ho4.size
  have k4 := k3.keep ho4 (fun h => h)
  have oD : Only (fun _ => False) w w4 := oC.trans ho4 (fun _ _ h => h)
  have hrl := recRecs_length D0
  have C5 := hide (vopen_any p4 hS (by omega))
  clear C4
  go_wp2_with fail
  refine (unhide C5).mono ?_
  rintro e w5 ⟨f5, rs, com', F', rfl, hf, hF', A5, cf, CI, o5⟩
  have s5 := o5.size
  have hin : ∀ k, F4 k ∨ G4 k ∨ k = w3.heap.size → w.heap.size + 1 + 1 ≤ k := by
    rintro k (h | h | h)
    · exact hFl k h
    · exact hGl k h
    · omega
  have k5 := k4.keep o5 (fun h => by have := hin _ h; omega)
  have oE : Only (fun _ => False) w w5 := oD.trans o5 (fun i hi h => by have := hin _ h; omega)
  have qA : ∀ k, Gnd.A ⟨f5, w3.heap.size, l', w.heap.size + 1 + 1, replay (recov D0) rs, D0, recRecs D0 ++ rs, com', F', G4⟩ k → w.heap.size + 1 + 1 ≤ k := by
    rintro k (h | h | h | h)
    · rcases hF' k h with c | c
      · exact hin k (.inl c)
      · omega
    · exact hin k (.inr (.inl h))
    · exact hin k (.inr (.inr h))
    · have : k = f5 := h
      omega
  have hQ : ComD com' D := ⟨S, cf.toS, hD⟩
  have cu0 : CutX D0 (recRecs D0 ++ rs) (fun X => ComD X D) (fun X => ComD X D) := CutX.join (unhide HC) CI lX A5.lcom hR hQ (by omega)
  have hsh := CI.short
  have C6 := hide (eopen_any (D := D) A5 cf hD cu0 (by show replay (recov D0) rs = _; rw [replay_append]; rfl) (by show (recRecs D0 ++ rs).length ≤ 300; rw [List.length_append]; omega))
  clear C5 A5 cf CI cu0 hQ HC
  go_wp2_with fail
  refine (unhide C6).mono ?_
  rintro y w6 ⟨x', q', S', T', rfl, hx', st6, la6, hd6, cf6, cu6, hqd, hqf, hqA, o6⟩
  have k6 := k5.keep o6 (fun h => by have := qA _ (Gnd.D_A h); omega)
  have oF : Only (fun _ => False) w w6 := oE.trans o6 (fun i hi h => by have := qA _ (Gnd.D_A h); omega)
  have CX := hide (xopen_any x' w6)
  have hqA2 : ∀ k, q'.A k ∨ k = x' → w.heap.size + 1 + 1 ≤ k := fun k h => by
    rcases h with h | h
    · rcases hqA k h with h | h
      · exact qA k h
      · omega
    · omega
  have HA6 := hide (And.intro st6 (And.intro la6 (And.intro hd6 (And.intro cf6 (And.intro cu6 (And.intro hqd hqA2))))))
  have HK6 := hide k6
  have HO := hide oF
  clear st6 la6 hd6 cf6 cu6 hqd hqf hqA hqA2 qA C6 k6 oF
  go_wp2_with fail
  refine (unhide CX).mono ?_
  rintro y w7 ⟨gm, rfl, hgm, xm, o7⟩
  have k6 := unhide HK6
  have k7 := k6.keep o7 (fun e => e)
  have c0 := k7.cell 0
  have c1 := k7.cell 1
  have z0 := k7.free 0
  have z1 := k7.free 1
  have zl := k7.lt
  have HX := hide (And.intro xm (And.intro hgm o7))
  have HK7 := hide k7
  clear CX xm k6 o7 hgm k7
  go_wp2_with fail
  obtain ⟨st6, la6, hd6, cf6, cu6, hqd, hqA2⟩ := unhide HA6
  have hqd : q'.d = w.heap.size + 1 + 1 := hqd
  have xm := (unhide HX).1
  have hgm := (unhide HX).2.1
  have o7 := (unhide HX).2.2
  have kz := ((unhide HK7).setCell 0 (.pointer (some ⟨w.heap.size + 1 + 1, 0, none⟩))).setCell 1 (.pointer (some ⟨gm, 0, none⟩))
  have q0 := kz.cell 0
  have q1 := kz.cell 1
  have oz : Only (fun k => k = w.heap.size + 1) w7 ((w7.setCell ⟨w.heap.size + 1, 0, none⟩ (.pointer (some ⟨w.heap.size + 1 + 1, 0, none⟩))).setCell ⟨w.heap.size + 1, 1, none⟩ (.pointer (some ⟨gm, 0, none⟩))) :=
    ((Only.refl (fun k => k = w.heap.size + 1) w7).setCell (p := ⟨w.heap.size + 1, 0, none⟩) (fun _ => rfl) _).setCell (p := ⟨w.heap.size + 1, 1, none⟩) (fun _ => rfl) _
  have glt := And.intro st6.fv.Alt st6.has.lt
  have rx0 : RX q' w7 gm x' (Mu0 (dbOf T')) (fun k => k = gm) := RX.new (st6.keep o7 (fun _ _ e => e)) la6 cf6 xm ⟨fun c => by have := glt.1 _ c; omega, by have := glt.2; omega⟩
  have zK := (unhide HK6).lt
  have rx := rx0.keep oz (fun b hb e => by
    have e' : b = w.heap.size + 1 := e
    rcases hb with c | c | c
    · have := hqA2 b (.inl c); omega
    · have := hqA2 b (.inr c); omega
    · have c' : b = gm := c; omega)
  rw [hd6] at rx
  simp at q0 q1
  refine bodyPost_ret (v := jbV (w.heap.size + 1 + 1) gm) (by simp [results, Tryz.results14, go_sem, q0, q1, jbV, jbC]) rfl ⟨q', x', gm, by rw [hqd], rx, cu6, fun k hk => ?_, ((unhide HO).trans o7 (fun _ _ e => e)).trans oz (fun i hi e => by omega)⟩
  rcases hk with c | c | c
  · have := hqA2 k (.inl c); omega
  · have := hqA2 k (.inr c); omega
  · have := (unhide HO).size; omega
section
variable {q : Gnd} {w w' : World} {g x : Nat} {M : Mu} {K : Nat → Prop}
theorem RX.comd (R : RX q w g x M K) : ComD q.com M.com ∧ q.com.length = 80 := by
  obtain ⟨X, S, T, hx, la, cf, ok, sh, hk⟩ := R.ex
  exact ⟨⟨S, cf.toS, .inl ⟨T, la, sh.com.symm⟩⟩, hx.st.fv.lcom⟩
theorem RX.dk (R : RX q w g x M K) : DiskAt w q.d q.blk q.base q.recs q.F := by
  obtain ⟨X, S, T, hx, _⟩ := R.ex
  exact hx.st.fv.dk
theorem RX.still (R : RX q w g x M K) : CutX q.blk [] (fun X => ComD X M.com) (fun X => ComD X M.com) := by
  have hc := R.comd
  obtain ⟨X, S, T, hx, _⟩ := R.ex
  exact hx.st.fv.still.toX hc.2 hc.2 hc.1 hc.1
theorem RX.mark (R : RX q w g x M K) (hd : DiskAt w' q.d q.blk q.blk [] (Ext q.F w w')) (ho : Only q.F w w') : RX (q.mark w w') w' g x M K := by
  have hkA := R.kA
  have hlt := R.Alt
  have sz := ho.size
  have nA : ∀ k, k < w.heap.size → ¬ q.A k → ¬ (q.mark w w').A k := fun k hk h c => by
    rcases Gnd.mark_A c with d | d
    · exact h d
    · omega
  obtain ⟨X, S, T, hx, la, cf, ok, sh, hk⟩ := R.ex
  have xl := hx.xm.lt
  refine ⟨⟨X, S, T, ⟨⟨hx.st.fv.marked hd ho, hx.st.has.keep ho (fun h => hx.st.nx (.inl h)), nA x hlt.2 hx.st.nx⟩, hx.xm.keep ho (fun h => (hx.off g (.inl rfl)).1 (.inl h)) (fun k hk h => (hx.off k (.inr (.inl hk))).1 (.inl h)) (fun k hk h => (hx.off k (.inr (.inr hk))).1 (.inl h)), fun k h => ⟨nA k (xl k h) (hx.off k h).1, (hx.off k h).2⟩⟩, la, cf, ok, sh, hk⟩, fun k h => ?_⟩
  have h1 := hkA k h
  exact ⟨nA k h1.2.2 h1.1, h1.2.1, by omega⟩
end
end Go.Proofs.Qxb6500412aGreat
