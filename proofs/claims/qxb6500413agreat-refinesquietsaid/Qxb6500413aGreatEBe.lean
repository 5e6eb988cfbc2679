/-
  OWN WORK. THE TABLE LAW's GROUND: below.go; what a cut of a whole step leaves.
-/
import Derived.Test.Qxb6500413aGreatEBr
namespace Go.Proofs.Qxb6500413aGreat
open Go.RowKit Go.PlainAid
set_option linter.unusedSimpArgs false
set_option linter.unusedVariables false

theorem Shows.eq {D X Y : List ByteArray} (hx : Shows D X) (hy : Shows D Y) (lx : X.length = 80) (ly : Y.length = 80) : X = Y := by
  apply List.ext_getElem (by omega)
  intro i h1 h2
  have := (hx i (by omega)).symm.trans (hy i (by omega))
  rw [List.getD_eq_getElem?_getD, List.getD_eq_getElem?_getD, List.getElem?_eq_getElem h1, List.getElem?_eq_getElem h2] at this
  exact this
/-- What a cut of the step just played may leave: images with P or with Q. -/
structure CutX (base : List ByteArray) (recs : List (Nat × ByteArray)) (P Q : List ByteArray → Prop) : Prop where
  len : base.length = 153
  sz : ∀ x ∈ base, x.size = 128
  keys : ∀ r ∈ recs, r.1 < 153
  rsz : ∀ r ∈ recs, r.2.size = 128
  short : recs.length ≤ 500
  either : ∀ k, ∃ X, X.length = 80 ∧ Shows (recov (replay base (recs.take k))) X ∧ (P X ∨ Q X)
  foot : ∃ X, X.length = 80 ∧ Shows (recov (replay base (recs.take 0))) X ∧ P X
  work : ∀ k, recs.length ≤ k → ∃ X, X.length = 80 ∧ Shows (recov (replay base (recs.take k))) X ∧ Q X
section
variable {base : List ByteArray} {recs : List (Nat × ByteArray)} {P Q R : List ByteArray → Prop}
theorem CutInv.toX {was com : List ByteArray} (h : CutInv base recs was com) (lw : was.length = 80) (lc : com.length = 80) (hP : P was) (hQ : Q com) : CutX base recs P Q :=
  ⟨h.len, h.sz, h.keys, h.rsz, by have := h.short; omega, fun k => by
    rcases h.either k with c | c
    · exact ⟨was, lw, c, .inl hP⟩
    · exact ⟨com, lc, c, .inr hQ⟩, ⟨was, lw, h.foot, hP⟩, fun k hk => ⟨com, lc, h.work k hk, hQ⟩⟩
theorem CutX.image_len (h : CutX base recs P Q) (k : Nat) : (replay base (recs.take k)).length = 153 := by simpa using h.len
theorem CutX.image_sz (h : CutX base recs P Q) (k : Nat) : ∀ x ∈ replay base (recs.take k), x.size = 128 := replay_sizes _ _ h.sz (fun r hr => h.rsz r (List.mem_of_mem_take hr))
theorem CutX.again (h : CutX base recs P Q) (k : Nat) {X : List ByteArray} (lX : X.length = 80) (hX : Shows (recov (replay base (recs.take k))) X) {R : List ByteArray → Prop} (hR : R X) : CutX (replay base (recs.take k)) (recRecs (replay base (recs.take k))) R R := by
  have hs : ∀ j, Shows (recov (replay (replay base (recs.take k)) ((recRecs (replay base (recs.take k))).take j))) X := fun j => by rw [recov_idem]; exact hX
  exact ⟨h.image_len k, h.image_sz k, recRecs_in _, recRecs_size _ (h.image_len k) (h.image_sz k), Nat.le_trans (recRecs_length _) (by omega), fun j => ⟨X, lX, hs j, .inl hR⟩, ⟨X, lX, hs 0, hR⟩, fun j _ => ⟨X, lX, hs j, hR⟩⟩
theorem CutX.inv (h : CutX base recs P Q) (k : Nat) {X : List ByteArray} (lX : X.length = 80) (hX : Shows (recov (replay base (recs.take k))) X) : Inv (recov (replay base (recs.take k))) false [] X X (nots 80) :=
  Inv.fresh (by rw [recov_length]; exact h.image_len k) (recov_sizes _ (h.image_len k) (h.image_sz k)) (recov_zero _) hX lX
/-- Where the cut falls. -/
theorem CutX.pick (h : CutX base recs P Q) (k : Nat) : ∃ X, X.length = 80 ∧ Shows (recov (replay base (recs.take k))) X ∧ (P X ∨ Q X) ∧ (k = 0 → P X) ∧ (recs.length ≤ k → Q X) := by
  by_cases h0 : k = 0
  · subst h0
    obtain ⟨X, lX, sX, pX⟩ := h.foot
    refine ⟨X, lX, sX, .inl pX, fun _ => pX, fun hk => ?_⟩
    obtain ⟨Y, lY, sY, qY⟩ := h.work 0 hk
    rw [Shows.eq sX sY lX lY]
    exact qY
  · by_cases h1 : recs.length ≤ k
    · obtain ⟨X, lX, sX, qX⟩ := h.work k h1
      exact ⟨X, lX, sX, .inr qX, fun c => absurd c h0, fun _ => qX⟩
    · obtain ⟨X, lX, sX, pX⟩ := h.either k
      exact ⟨X, lX, sX, pX, fun c => absurd c h0, fun c => absurd c h1⟩
/-- A step, and one that follows on it. -/
theorem CutX.join {com com' : List ByteArray} {rs rt : List (Nat × ByteArray)} (h : CutX base rs P P) (g : CutInv (replay base rs) rt com com') (lw : com.length = 80) (lc : com'.length = 80) (hP : P com) (hQ : Q com') (hs : rs.length ≤ 350) : CutX base (rs ++ rt) P Q := by
  have hr : ∀ k, rs.length ≤ k → replay base ((rs ++ rt).take k) = replay (replay base rs) (rt.take (k - rs.length)) := fun k hk => by
    rw [List.take_append, List.take_of_length_le hk, replay_append]
  have hl : ∀ k, k ≤ rs.length → replay base ((rs ++ rt).take k) = replay base (rs.take k) := fun k hk => by
    rw [List.take_append_of_le_length hk]
  refine ⟨h.len, h.sz, fun r hr' => ?_, fun r hr' => ?_, ?_, fun k => ?_, ?_, fun k hk => ?_⟩
  · rcases List.mem_append.mp hr' with c | c
    · exact h.keys r c
    · exact g.keys r c
  · rcases List.mem_append.mp hr' with c | c
    · exact h.rsz r c
    · exact g.rsz r c
  · rw [List.length_append]
    have := g.short
    omega
  · by_cases c : k ≤ rs.length
    · rw [hl k c]
      obtain ⟨X, lX, sX, pX⟩ := h.either k
      exact ⟨X, lX, sX, .inl (by rcases pX with d | d <;> exact d)⟩
    · rw [hr k (by omega)]
      rcases g.either (k - rs.length) with d | d
      · exact ⟨com, lw, d, .inl hP⟩
      · exact ⟨com', lc, d, .inr hQ⟩
  · rw [hl 0 (by omega)]
    exact h.foot
  · rw [List.length_append] at hk
    rw [hr k (by omega)]
    exact ⟨com', lc, g.work _ (by omega), hQ⟩
theorem CutX.mono {P' Q' : List ByteArray → Prop} (h : CutX base recs P Q) (hP : ∀ X, P X → P' X) (hQ : ∀ X, Q X → Q' X) : CutX base recs P' Q' :=
  ⟨h.len, h.sz, h.keys, h.rsz, h.short, fun k => by
    obtain ⟨X, a, b, c⟩ := h.either k
    exact ⟨X, a, b, c.imp (hP X) (hQ X)⟩, by
    obtain ⟨X, a, b, c⟩ := h.foot
    exact ⟨X, a, b, hP X c⟩, fun k hk => by
    obtain ⟨X, a, b, c⟩ := h.work k hk
    exact ⟨X, a, b, hQ X c⟩⟩
end
def jbC (d f : Nat) : Array Value := #[.pointer (some ⟨d, 0, none⟩), .pointer (some ⟨f, 0, none⟩)]
def jbV (d f : Nat) : Value := .agg (jbC d f)
theorem gzeros_getD (n j : Nat) (h : j < n) : (zeros n).getD j emptyB = zeroB := by
  unfold zeros
  rw [List.getD_eq_getElem?_getD, List.getElem?_replicate, if_pos h]; rfl
theorem ginv_zero : Inv (zeros 153) false [] (zeros 80) (zeros 80) (nots 80) := by
  refine Inv.fresh (by simp) (fun x hx => ?_) ?_ (fun b hb => ?_) (by simp)
  · unfold zeros at hx
    rw [List.mem_replicate] at hx
    rw [hx.2, zeroB_size]
  · rw [gzeros_getD 153 0 (by omega)]; exact zeroB_byte
  · rw [gzeros_getD 153 _ (by omega), gzeros_getD 80 _ hb]

theorem FV.dk {q : Gnd} {w : World} {op : Bool} {S : Vu} (A : FV q w op S) : DiskAt w q.d q.blk q.base q.recs q.F := by
  obtain ⟨view, F, A, I, rfl⟩ := A
  exact A.pg.dk
theorem FV.lcom {q : Gnd} {w : World} {op : Bool} {S : Vu} (A : FV q w op S) : q.com.length = 80 := by
  obtain ⟨view, F, A, I, rfl⟩ := A
  exact A.pg.lcom
theorem FV.still {q : Gnd} {w : World} {op : Bool} {S : Vu} (A : FV q w op S) : CutInv q.blk [] q.com q.com := by
  obtain ⟨view, F, A, I, rfl⟩ := A
  exact A.pg.still
def Gnd.mark (q : Gnd) (w w' : World) : Gnd := ⟨q.f, q.p, q.l, q.d, q.blk, q.blk, [], q.com, Ext q.F w w', q.G⟩
theorem FV.marked {q : Gnd} {w w' : World} {op : Bool} {S : Vu} (A : FV q w op S) (hd : DiskAt w' q.d q.blk q.blk [] (Ext q.F w w')) (ho : Only q.F w w') : FV (q.mark w w') w' op S := by
  obtain ⟨view, F, A, I, rfl⟩ := A
  have hfl := A.has.lt
  refine ⟨view, F, ⟨A.pg.marked hd ho, A.has.keep ho A.fF, A.fG, ?_, A.fp⟩, I, rfl⟩
  rintro (h | h)
  · exact A.fF h
  · have : w.heap.size ≤ q.f := h.1
    omega
theorem Gnd.mark_A {q : Gnd} {w w' : World} {k : Nat} (h : (q.mark w w').A k) : q.A k ∨ (w.heap.size ≤ k ∧ k < w'.heap.size) := by
  rcases h with (h | h) | h | h | h
  · exact .inl (.inl h)
  · exact .inr h
  · exact .inl (.inr (.inl h))
  · exact .inl (.inr (.inr (.inl h)))
  · exact .inl (.inr (.inr (.inr h)))
set_option maxRecDepth 100000 in
theorem jsteps_any {d : Nat} {blk base : List ByteArray} {recs : List (Nat × ByteArray)} {F : Nat → Prop} {w : World} (f : Nat) (hd : DiskAt w d blk base recs F) :
    Calls Tryz.prog 12 #[jbV d f] w fun e w' => e = .returned (.int .i64 recs.length) ∧ Only (fun _ => False) w w' := by
  have o1 : Only (fun _ => False) w (w.alloc (.cells (jbC d f) 30)) := (Only.refl _ w).alloc _
  have C1 := hide (dsteps_any d blk base recs F _ (hd.keep o1 (fun _ _ h => h)))
  unfold jbC at C1 o1
  unfold jbV jbC
  go_enter Tryz.func12, Tryz.ntmps12
  go_wp2_with fail
  refine (unhide C1).mono ?_
  rintro e w1 ⟨rfl, rfl⟩
  go_wp2
  go_ret
  exact ⟨rfl, o1⟩
set_option maxRecDepth 100000 in
theorem jmark_any {d : Nat} {blk base : List ByteArray} {recs : List (Nat × ByteArray)} {F : Nat → Prop} {w : World} (f : Nat) (hd : DiskAt w d blk base recs F) :
    Calls Tryz.prog 14 #[jbV d f] w fun e w' => e = .returned (.tuple #[]) ∧ DiskAt w' d blk blk [] (Ext F w w') ∧ Only F w w' := by
  have o1 : Only (fun _ => False) w (w.alloc (.cells (jbC d f) 30)) := (Only.refl _ w).alloc _
  have C1 := hide (dmark_any d blk base recs F _ (hd.keep o1 (fun _ _ h => h)))
  have hFi := hd.inn
  unfold jbC at C1 o1
  unfold jbV jbC
  go_enter Tryz.func14, Tryz.ntmps14
  go_wp2_with fail
  refine (unhide C1).mono ?_
  rintro e w1 ⟨rfl, hd1, ho1⟩
  go_wp2
  go_end0
  have ho2 : Only F w w1 := (o1.mono (fun _ _ h => h.elim)).trans ho1 (fun _ _ h => h)
  refine ⟨rfl, hd1.mono (fun k hk => ?_) (Ext.in hFi ho2.size), ho2⟩
  rcases hk with hk | hk
  · exact .inl hk
  · simp at hk; exact .inr ⟨by omega, hk.2⟩
/-- The ground: a blank forest over fresh layers. -/
theorem comS_zero : ComS (zeros 80) (fun _ => none) := .inl ⟨NV_zero, rfl⟩
set_option maxRecDepth 100000 in
set_option maxHeartbeats 1000000 in
theorem jground_any (w : World) :
    Calls Tryz.prog 10 #[] w fun e w' => ∃ q rs, e = .returned (jbV q.d q.f) ∧ FV q w' false (fun _ => none) ∧ ComF q.com (fun _ => none) ∧ q.base = zeros 153 ∧ q.recs = rs ∧ CutInv (zeros 153) rs (zeros 80) q.com ∧ q.blk = replay (zeros 153) rs ∧ (∀ k, q.A k → w.heap.size ≤ k) ∧ Only (fun _ => False) w w' := by
  go_enter Tryz.func10, Tryz.ntmps10
  go_wp2_with fail
  refine (dnew_any _).mono ?_
  rintro e w1 ⟨rfl, hd1, ho1⟩
  simp only [World.size_alloc] at hd1
  have k1 := (Has.new w #[.pointer none, .pointer none] 30).keep ho1 (fun h => h)
  have s1 := ho1.size
  simp only [World.size_alloc] at s1
  go_wp2_with fail
  refine (wnew_any _ _).mono ?_
  rintro e w2 ⟨rfl, hl2, ho2⟩
  have s2 := ho2.size
  have k2 := k1.keep ho2 (fun h => h)
  have hFl : ∀ k, Ext (fun _ => False) (w.alloc (.cells #[.pointer none, .pointer none] 30)) w1 k → w.heap.size + 1 ≤ k ∧ k < w1.heap.size := by
    intro k hk; rcases hk with hk | hk
    · exact hk.elim
    · simp at hk; exact hk
  have hGl : ∀ k, Ext (fun _ => False) w1 w2 k → w1.heap.size ≤ k := Ext.le (fun _ h => h.elim) (Nat.le_refl _)
  have L2 : LG w2 w1.heap.size (w.heap.size + 1) (zeros 153) (zeros 153) [] false (zeros 80) (zeros 80) (Ext (fun _ => False) (w.alloc (.cells #[.pointer none, .pointer none] 30)) w1) (Ext (fun _ => False) w1 w2) :=
    ⟨⟨[], nots 80, hl2, ginv_zero, by simp⟩, hd1.keep ho2 (fun _ _ h => h), fun k hk hg => by have := hFl k hk; have := hGl k hg; omega⟩
  generalize Ext (fun _ => False) (w.alloc (.cells #[.pointer none, .pointer none] 30)) w1 = F at *
  generalize Ext (fun _ => False) w1 w2 = G at *
  have C3 := hide (pnew_any L2)
  go_wp2_with fail
  refine (unhide C3).mono ?_
  rintro e w3 ⟨rfl, p3, ho3⟩
  have s3 := ho3.size
  have k3 := k2.keep ho3 (fun h => h)
  have C4 := hide (vnew_any p3 comS_zero (by simp))
  have o123 : Only (fun _ => False) w w3 := ((((Only.refl _ w).alloc _).trans ho1 (fun _ _ h => h)).trans ho2 (fun _ _ h => h)).trans ho3 (fun _ _ h => h)
  clear C3 k1 k2 L2 hd1 hl2 ho1 ho2 ho3
  go_wp2_with fail
  refine (unhide C4).mono ?_
  rintro e w4 ⟨f, rs, com', F', rfl, hf, hF', A4, cf, CI, o4⟩
  have s4 := o4.size
  have k4 := k3.keep o4 (fun h => by
    rcases h with h | h | h
    · have := hFl _ h; omega
    · have := hGl _ h; omega
    · omega)
  have c0 := k4.cell 0
  have c1 := k4.cell 1
  have z0 := k4.free 0
  have z1 := k4.free 1
  have o14 : Only (fun _ => False) w w4 := o123.trans o4 (fun i hi h => by
    rcases h with h | h | h
    · have := hFl _ h; omega
    · have := hGl _ h; omega
    · omega)
  have HA4 := hide (And.intro A4 (And.intro cf CI))
  clear C4 A4 cf CI
  go_wp2_with fail
  obtain ⟨A4, cf, CI⟩ := unhide HA4
  have k5 := (k4.setCell 0 (.pointer (some ⟨w.heap.size + 1, 0, none⟩))).setCell 1 (.pointer (some ⟨f, 0, none⟩))
  have q0 := k5.cell 0
  have q1 := k5.cell 1
  have o5 : Only (fun k => k = w.heap.size) w4 ((w4.setCell ⟨w.heap.size, 0, none⟩ (.pointer (some ⟨w.heap.size + 1, 0, none⟩))).setCell ⟨w.heap.size, 1, none⟩ (.pointer (some ⟨f, 0, none⟩))) :=
    ((Only.refl (fun k => k = w.heap.size) w4).setCell (p := ⟨w.heap.size, 0, none⟩) (fun _ => rfl) _).setCell (p := ⟨w.heap.size, 1, none⟩) (fun _ => rfl) _
  simp at q0 q1
  have qA : ∀ k, Gnd.A ⟨f, w2.heap.size, w1.heap.size, w.heap.size + 1, replay (zeros 153) rs, zeros 153, [] ++ rs, com', F', G⟩ k → w.heap.size + 1 ≤ k := by
    rintro k (h | h | h | h)
    · rcases hF' k h with c | c
      · have := hFl k c; omega
      · omega
    · have := hGl k h; omega
    · have : k = w2.heap.size := h
      omega
    · have : k = f := h
      omega
  refine bodyPost_ret (v := jbV (w.heap.size + 1) f) (by simp [results, Tryz.results10, go_sem, q0, q1, jbV, jbC]) rfl ⟨⟨f, w2.heap.size, w1.heap.size, w.heap.size + 1, replay (zeros 153) rs, zeros 153, [] ++ rs, com', F', G⟩, rs, rfl, A4.keep o5 (fun k hk e => ?_) (fun k hk e => ?_) ?_ ?_, cf, rfl, by simp, CI, rfl, fun k hk => by have := qA k hk; omega, o14.trans o5 (fun i hi e => by omega)⟩
  · have := qA k (.inl hk); omega
  · have := qA k (.inr (.inl hk)); omega
  · intro e
    have e : w2.heap.size = w.heap.size := e
    omega
  · intro e
    have e : f = w.heap.size := e
    omega
set_option maxRecDepth 100000 in
set_option maxHeartbeats 1000000 in
theorem jafter_any {d : Nat} {blk base : List ByteArray} {recs : List (Nat × ByteArray)} {F : Nat → Prop} {P Q R : List ByteArray → Prop} {w : World} (f : Nat) (kk : Int) (hd : DiskAt w d blk base recs F) (hcu : CutX base recs P Q) {X : List ByteArray} (lX : X.length = 80) (hX : Shows (recov (replay base (recs.take kk.toNat))) X) (hR : R X) {S : Vu} (hS : ComS X S) :
    Calls Tryz.prog 16 #[jbV d f, .int .i64 kk] w fun e w' => ∃ q D0 rs, e = .returned (jbV q.d q.f) ∧ FV q w' false S ∧ ComF q.com S ∧ q.base = D0 ∧ q.recs = recRecs D0 ++ rs ∧ CutX D0 (recRecs D0) R R ∧ CutInv (replay D0 (recRecs D0)) rs X q.com ∧ q.blk = replay (replay D0 (recRecs D0)) rs ∧ (∀ k, q.A k → w.heap.size ≤ k) ∧ Only (fun _ => False) w w' := by
  have o1 : Only (fun _ => False) w ((w.alloc (.cells (jbC d f) 30)).alloc (.cells #[.pointer none, .pointer none] 30)) := ((Only.refl _ w).alloc _).alloc _
  have hl146 := hcu.short
  have C1 := hide (dafter_any d blk base recs F kk _ (hd.keep o1 (fun _ _ h => h)) hcu.keys (by omega))
  have kk1 : Has ((w.alloc (.cells (jbC d f) 30)).alloc (.cells #[.pointer none, .pointer none] 30)) (w.heap.size + 1) #[.pointer none, .pointer none] 30 := Has.new' _ _ _ _ (by simp)
  have hDs : ∀ x ∈ replay base (recs.take kk.toNat), x.size = 128 := hcu.image_sz _
  have HC := hide (hcu.again kk.toNat lX hX hR)
  have hI := hcu.inv kk.toNat lX hX
  generalize replay base (recs.take kk.toNat) = D0 at *
  unfold jbC at C1 o1 kk1
  unfold jbV jbC
  have hsz : ((w.alloc (.cells #[.pointer (some ⟨d, 0, none⟩), .pointer (some ⟨f, 0, none⟩)] 30)).alloc (.cells #[.pointer none, .pointer none] 30)).heap.size = w.heap.size + 1 + 1 := by simp
  go_enter Tryz.func16, Tryz.ntmps16
  go_wp2_with fail
  refine (unhide C1).mono ?_
  rintro e w1 ⟨rfl, hd1, ho1⟩
  rw [hsz] at hd1
  have s1 := ho1.size
  rw [hsz] at s1
  have hF1 : ∀ k, Ext (fun _ => False) ((w.alloc (.cells #[.pointer (some ⟨d, 0, none⟩), .pointer (some ⟨f, 0, none⟩)] 30)).alloc (.cells #[.pointer none, .pointer none] 30)) w1 k → w.heap.size + 1 + 1 ≤ k := Ext.le (fun _ h => h.elim) (by rw [hsz]; exact Nat.le_refl _)
  have k1 := kk1.keep ho1 (fun h => h)
  have oA := o1.trans ho1 (fun _ _ h => h)
  generalize Ext (fun _ => False) ((w.alloc (.cells #[.pointer (some ⟨d, 0, none⟩), .pointer (some ⟨f, 0, none⟩)] 30)).alloc (.cells #[.pointer none, .pointer none] 30)) w1 = F1 at *
  have C2 := hide (dmark_any _ _ _ _ _ w1 hd1)
  clear C1 kk1 o1 ho1
  go_wp2_with fail
  refine (unhide C2).mono ?_
  rintro e w2 ⟨rfl, hd2, ho2⟩
  have s2 := ho2.size
  have k2 := k1.keep ho2 (fun h => by have := hF1 _ h; omega)
  have hF2 : ∀ k, Ext F1 w1 w2 k → w.heap.size + 1 + 1 ≤ k := Ext.le hF1 (by omega)
  have oB : Only (fun _ => False) w w2 := oA.trans ho2 (fun i hi h => by have := hF1 _ h; omega)
  have C3 := hide (wopen_any _ D0 D0 [] _ w2 hd2 hDs (by simp))
  go_wp2_with fail
  refine (unhide C3).mono ?_
  rintro e w3 ⟨l', F4, G4, rfl, hd3, hl3, ho3, hF4, hG4, hFG4⟩
  rw [List.nil_append] at hd3
  have hrv : replay D0 (recRecs D0) = recov D0 := rfl
  rw [hrv] at hd3
  have s3 := ho3.size
  have k3 := k2.keep ho3 (fun h => by have := hF2 _ h; omega)
  have oC : Only (fun _ => False) w w3 := oB.trans ho3 (fun i hi h => by have := hF2 _ h; omega)
  have hFl : ∀ k, F4 k → w.heap.size + 1 + 1 ≤ k := fun k hk => Ext.le hF2 (by omega) k (hF4 k hk)
  have hGl : ∀ k, G4 k → w.heap.size + 1 + 1 ≤ k := fun k hk => by have := hG4 k hk; omega
  have L3 : LG w3 l' (w.heap.size + 1 + 1) (recov D0) D0 (recRecs D0) false X X F4 G4 := ⟨⟨[], nots 80, hl3, hI, by simp⟩, hd3, hFG4⟩
  have C4 := hide (popen_any L3)
  clear C2 C3 hrv hd3 hl3 L3 hd1 hd2
  go_wp2_with fail
  refine (unhide C4).mono ?_
  rintro e w4 ⟨rfl, p4, ho4⟩
  have s4 := ho4.size
  have k4 := k3.keep ho4 (fun h => h)
  have oD : Only (fun _ => False) w w4 := oC.trans ho4 (fun _ _ h => h)
  have hrl := recRecs_length D0
  have C5 := hide (vopen_any p4 hS (by omega))
  clear C4
  go_wp2_with fail
  refine (unhide C5).mono ?_
  rintro e w5 ⟨f5, rs, com', F', rfl, hf, hF', A5, cf, CI, o5⟩
  have s5 := o5.size
  have hin : ∀ k, F4 k ∨ G4 k ∨ k = w3.heap.size → w.heap.size + 1 + 1 ≤ k := by
    rintro k (h | h | h)
    · exact hFl k h
    · exact hGl k h
    · omega
  have k5 := k4.keep o5 (fun h => by have := hin _ h; omega)
  have oE : Only (fun _ => False) w w5 := oD.trans o5 (fun i hi h => by have := hin _ h; omega)
  have c0 := k5.cell 0
  have c1 := k5.cell 1
  have z0 := k5.free 0
  have z1 := k5.free 1
  have HA5 := hide (And.intro A5 (And.intro cf CI))
  clear C5 A5 cf CI
  go_wp2_with fail
  obtain ⟨A5, cf, CI⟩ := unhide HA5
  have k6 := (k5.setCell 0 (.pointer (some ⟨w.heap.size + 1 + 1, 0, none⟩))).setCell 1 (.pointer (some ⟨f5, 0, none⟩))
  have q0 := k6.cell 0
  have q1 := k6.cell 1
  have o6 : Only (fun k => k = w.heap.size + 1) w5 ((w5.setCell ⟨w.heap.size + 1, 0, none⟩ (.pointer (some ⟨w.heap.size + 1 + 1, 0, none⟩))).setCell ⟨w.heap.size + 1, 1, none⟩ (.pointer (some ⟨f5, 0, none⟩))) :=
    ((Only.refl (fun k => k = w.heap.size + 1) w5).setCell (p := ⟨w.heap.size + 1, 0, none⟩) (fun _ => rfl) _).setCell (p := ⟨w.heap.size + 1, 1, none⟩) (fun _ => rfl) _
  simp at q0 q1
  have qA : ∀ k, Gnd.A ⟨f5, w3.heap.size, l', w.heap.size + 1 + 1, replay (recov D0) rs, D0, recRecs D0 ++ rs, com', F', G4⟩ k → w.heap.size + 1 + 1 ≤ k := by
    rintro k (h | h | h | h)
    · rcases hF' k h with c | c
      · exact hin k (.inl c)
      · omega
    · exact hin k (.inr (.inl h))
    · exact hin k (.inr (.inr h))
    · have : k = f5 := h
      omega
  refine bodyPost_ret (v := jbV (w.heap.size + 1 + 1) f5) (by simp [results, Tryz.results16, go_sem, q0, q1, jbV, jbC]) rfl ⟨⟨f5, w3.heap.size, l', w.heap.size + 1 + 1, replay (recov D0) rs, D0, recRecs D0 ++ rs, com', F', G4⟩, D0, rs, rfl, A5.keep o6 (fun k hk e => ?_) (fun k hk e => ?_) ?_ ?_, cf, rfl, rfl, unhide HC, CI, rfl, fun k hk => by have := qA k hk; omega, oE.trans o6 (fun i hi e => by omega)⟩
  · have := qA k (.inl hk); omega
  · have := qA k (.inr (.inl hk)); omega
  · intro e
    have e : w3.heap.size = w.heap.size + 1 := e
    omega
  · intro e
    have e : f5 = w.heap.size + 1 := e
    omega
end Go.Proofs.Qxb6500413aGreat
