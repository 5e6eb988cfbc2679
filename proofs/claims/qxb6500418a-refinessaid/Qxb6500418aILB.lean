/-
  OWN WORK. THE LAW OF THE INDEX: the two sides together.
-/
import Derived.Test.Qxb6500418aILA
namespace Go.Proofs.Qxb6500418a
open Go.RowKit Go.PlainAid
set_option linter.unusedSimpArgs false
set_option linter.unusedVariables false

/-- The real index and the model show one list. -/
structure JX (w : World) (x m : Nat) (L : List Fl) (H : Nat → Prop) : Prop where
  ix : IX w x L
  xa : XAt w m L H
  nx : ¬ H x
/-- What an op leaves. -/
structure JP (w w' : World) (x m : Nat) (H : Nat → Prop) : Prop where
  ex : ∃ L' H', JX w' x m L' H' ∧ ∀ k, H' k → Ext H w w' k
  ho : Only (fun k => k = x ∨ H k) w w'
/-- A list that lies in an array of its own, at a fresh place. -/
structure Fr (w : World) (v : Value) (l : List Fl) (lo hi : Nat) : Prop where
  own : OwnF w v l
  rg : ∀ y, v.ownBlock = some y → lo ≤ y ∧ y < hi
structure Fc (w : World) (v : Value) (l : List Chg) (lo hi : Nat) : Prop where
  own : OwnC w v l
  rg : ∀ y, v.ownBlock = some y → lo ≤ y ∧ y < hi
theorem own_lt {w : World} {e size : Nat} {v : Value} {n : Nat} {xs : List Value} (h : w.ownsRow 0 e size v n xs) : ∀ y, v.ownBlock = some y → y < w.heap.size := by
  intro y hy
  rcases h.2 with ⟨rfl, _⟩ | ⟨g, cap, cur, rfl, _, hg, _⟩
  · simp [Value.ownBlock] at hy
  · have : g = y := by simpa [Value.ownBlock] using hy
    subst this
    exact lt_of_block hg
theorem Fr.new {w w' : World} {v : Value} {l : List Fl} (h : OwnF w' v l) (hb : ∀ y, v.ownBlock = some y → w.heap.size ≤ y) : Fr w' v l w.heap.size w'.heap.size := ⟨h, fun y hy => ⟨hb y hy, own_lt h y hy⟩⟩
theorem Fc.new {w w' : World} {v : Value} {l : List Chg} (h : OwnC w' v l) (hb : ∀ y, v.ownBlock = some y → w.heap.size ≤ y) : Fc w' v l w.heap.size w'.heap.size := ⟨h, fun y hy => ⟨hb y hy, own_lt h y hy⟩⟩
theorem Fr.on {S : Nat → Prop} {w w' : World} {v : Value} {l : List Fl} {lo hi : Nat} (h : Fr w v l lo hi) (ho : Only S w w') (hS : ∀ k, S k → k < lo ∨ hi ≤ k) : Fr w' v l lo hi :=
  ⟨h.own.keep ho (fun k hk hs => by have := h.rg k hk; have := hS k hs; omega), h.rg⟩
theorem Fc.on {S : Nat → Prop} {w w' : World} {v : Value} {l : List Chg} {lo hi : Nat} (h : Fc w v l lo hi) (ho : Only S w w') (hS : ∀ k, S k → k < lo ∨ hi ≤ k) : Fc w' v l lo hi :=
  ⟨h.own.keep ho (fun k hk hs => by have := h.rg k hk; have := hS k hs; omega), h.rg⟩
theorem Fr.q {w w' : World} {v : Value} {l : List Fl} {lo hi : Nat} (h : Fr w v l lo hi) (ho : Only (fun _ => False) w w') : Fr w' v l lo hi := h.on ho (fun _ h => h.elim)
theorem Fc.q {w w' : World} {v : Value} {l : List Chg} {lo hi : Nat} (h : Fc w v l lo hi) (ho : Only (fun _ => False) w w') : Fc w' v l lo hi := h.on ho (fun _ h => h.elim)
theorem Fr.spoil {w : World} {v : Value} {l : List Fl} {lo hi : Nat} (h : Fr w v l lo hi) :
    Calls Try.prog 29 #[v] w fun e w' => e = .returned (.tuple #[]) ∧ Only (fun k => lo ≤ k ∧ k < hi) w w' :=
  (spoilFiles_any h.own).mono (fun e w' ⟨h1, h2⟩ => ⟨h1, h2.mono (fun k _ hk => h.rg k hk)⟩)
theorem Fc.spoil {w : World} {v : Value} {l : List Chg} {lo hi : Nat} (h : Fc w v l lo hi) :
    Calls Try.prog 34 #[v] w fun e w' => e = .returned (.tuple #[]) ∧ Only (fun k => lo ≤ k ∧ k < hi) w w' :=
  (spoilChanges_any h.own).mono (fun e w' ⟨h1, h2⟩ => ⟨h1, h2.mono (fun k _ hk => h.rg k hk)⟩)

section
variable {w : World} {x m : Nat} {L : List Fl} {H : Nat → Prop}
theorem JX.quiet {w' : World} (h : JX w x m L H) (ho : Only (fun _ => False) w w') : JX w' x m L H := ⟨h.ix.keep ho (fun h => h), h.xa.quiet ho, h.nx⟩
theorem JX.idle {w' : World} (h : JX w x m L H) (ho : Only (fun _ => False) w w') : JP w w' x m H :=
  ⟨⟨L, H, h.quiet ho, fun k hk => .inl hk⟩, ho.mono (fun _ _ h => h.elim)⟩
/-- The real side's op, then the model's. -/
theorem JX.both {w0 w1 w1' w2 : World} {L' : List Fl} (h : JX w x m L H) (h0 : Only (fun _ => False) w w0) (h1 : IX w1 x L') (ho1 : Only (fun k => k = x) w0 w1) (ho1' : Only (fun k => w0.heap.size ≤ k ∨ w.heap.size ≤ k) w1 w1') (h2 : XAt w2 m L' (Ext H w1' w2)) (ho2 : Only H w1' w2) : JP w w2 x m H := by
  have s0 := h0.size
  have s1 := ho1.size
  have s1' := ho1'.size
  have s2 := ho2.size
  have hx := h.ix.lt
  refine ⟨⟨L', _, ⟨(h1.keep ho1' (fun e => by omega)).keep ho2 h.nx, h2, ?_⟩, fun k hk => ?_⟩, ((((h0.mono (fun _ _ h => h.elim)).trans ho1 (fun _ _ h => .inl h)).trans ho1' (fun k hk e => by omega))).trans ho2 (fun _ _ h => .inr h)⟩
  · rintro (e | e)
    · exact h.nx e
    · omega
  · rcases hk with e | e
    · exact .inl e
    · exact .inr ⟨by omega, e.2⟩

set_option maxRecDepth 100000 in
theorem sameSet_any (h : JX w x m L H) (f : Fl) :
    Calls Try.prog 11 #[.pointer (some ⟨x, 0, none⟩), .pointer (some ⟨m, 0, none⟩), .agg #[.string f.path, .string f.data, .int .i64 f.mode]] w fun e w' => e = .returned (.bool true) ∧ JP w w' x m H := by
  have o0 : Only (fun _ => False) w (w.alloc (.cells #[.string f.path, .string f.data, .int .i64 f.mode] 40)) := (Only.refl _ w).alloc _
  have r0 := Has.new w #[.string f.path, .string f.data, .int .i64 f.mode] 40
  have hxl := h.ix.lt
  have hml := h.xa.lt
  have hxn : w.heap.size ≠ x := by omega
  have hcnt := h.ix.cnt
  have hgd := h.ix.good
  have C1 := hide (iset_any (h.ix.keep o0 (fun h => h)) f)
  have C2 := hide (fun W1 (hW : XAt W1 m L H) => xset_any hW f hcnt (fun g hg => (hgd g hg).1))
  have y0 := r0.cell 0
  have y1 := r0.cell 1
  have y2 := r0.cell 2
  have er : ((setErr L f : Int) == (setErr L f : Int)) = true := by simp
  clear hgd
  go_enter Try.func11, Try.ntmps11
  go_wp2_with fail
  refine (unhide C1).mono ?_
  rintro e w1 ⟨rfl, h1, ho1⟩
  have r1 := r0.keep ho1 hxn
  have y0 := r1.cell 0
  have y1 := r1.cell 1
  have y2 := r1.cell 2
  have hb1 := r1.lt
  have hx1 := (h.xa.quiet o0).keep ho1 (fun k hk e => h.nx (e ▸ hk))
  go_wp2_with fail
  refine (unhide C2 _ hx1).mono ?_
  rintro e w2 ⟨rfl, h2, ho2⟩
  go_wp2_with fail
  go_ret
  exact ⟨rfl, h.both o0 h1 ho1 (Only.refl _ _) h2 ho2⟩
set_option maxRecDepth 100000 in
theorem sameDel_any (h : JX w x m L H) (p : ByteArray) :
    Calls Try.prog 12 #[.pointer (some ⟨x, 0, none⟩), .pointer (some ⟨m, 0, none⟩), .string p] w fun e w' => e = .returned (.bool true) ∧ JP w w' x m H := by
  have hxl := h.ix.lt
  have hml := h.xa.lt
  have hcnt := h.ix.cnt
  have C1 := idel_any h.ix p
  have C2 := fun W1 (hW : XAt W1 m L H) => xdel_any hW p (by omega)
  generalize (if findI L p = -1 then (13 : Int) else 0) = ev at C1 C2
  have C1 := hide C1
  have C2 := hide C2
  have er : (ev == ev) = true := by simp
  go_enter Try.func12, Try.ntmps12
  go_wp2_with fail
  refine (unhide C1).mono ?_
  rintro e w1 ⟨rfl, h1, ho1⟩
  have hx1 := h.xa.keep ho1 (fun k hk e => h.nx (e ▸ hk))
  go_wp2_with fail
  refine (unhide C2 _ hx1).mono ?_
  rintro e w2 ⟨rfl, h2, ho2⟩
  go_wp2_with fail
  go_ret
  exact ⟨rfl, h.both (Only.refl _ _) h1 ho1 (Only.refl _ _) h2 ho2⟩
set_option maxRecDepth 100000 in
theorem sameGet_any (h : JX w x m L H) (p : ByteArray) :
    Calls Try.prog 13 #[.pointer (some ⟨x, 0, none⟩), .pointer (some ⟨m, 0, none⟩), .string p] w fun e w' => e = .returned (.bool true) ∧ Only (fun _ => False) w w' := by
  have hxl := h.ix.lt
  have hml := h.xa.lt
  have hcnt := h.ix.cnt
  have C1 := iget_any h.ix p
  have C2 := fun W1 (hW : Only (fun _ => False) w W1) => xget_any (h.xa.quiet hW) p (by omega)
  generalize (if findI L p = -1 then (13 : Int) else 0) = ev at C1 C2
  generalize getL L p = f at *
  have C1 := hide C1
  have C2 := hide C2
  have C3 := hide (fun W => sameFile_eq f W)
  have er : (ev == ev) = true := by simp
  clear h
  go_enter Try.func13, Try.ntmps13
  go_wp2_with fail
  refine (unhide C1).mono ?_
  rintro e w1 ⟨rfl, ho1⟩
  have r1 := Has.new w1 #[.string f.path, .string f.data, .int .i64 f.mode] 40
  have o1 := ho1.alloc (.cells #[.string f.path, .string f.data, .int .i64 f.mode] 40)
  have s1 := ho1.size
  go_wp2_with fail
  refine (unhide C2 _ o1).mono ?_
  rintro e w2 ⟨rfl, ho2⟩
  have r2 := r1.keep ho2 (fun h => h)
  have y0 := r2.cell 0
  have y1 := r2.cell 1
  have y2 := r2.cell 2
  have l2 := r2.lt
  have o2 := (o1.trans ho2 (fun _ _ h => h)).alloc (.cells #[.string f.path, .string f.data, .int .i64 f.mode] 40)
  generalize w1.heap.size = g1 at *
  clear r1 r2 ho1 ho2 o1 C1 C2
  go_wp2_with fail
  refine (unhide C3 _).mono ?_
  rintro e w3 ⟨rfl, ho3⟩
  go_wp2_with fail
  go_ret
  exact ⟨rfl, o2.trans ho3 (fun _ _ h => h)⟩
set_option maxRecDepth 100000 in
set_option maxHeartbeats 1000000 in
theorem sameList_any (h : JX w x m L H) (once : Bool) :
    Calls Try.prog 16 #[.pointer (some ⟨x, 0, none⟩), .pointer (some ⟨m, 0, none⟩), .bool once] w fun e w' => e = .returned (.bool true) ∧ Only (fun _ => False) w w' := by
  have hcnt := h.ix.cnt
  have C1 := hide (fun W1 (hW : Only (fun _ => False) w W1) => ilist_any (h.ix.keep hW (fun h => h)))
  have C2 := hide (fun W1 (hW : Only (fun _ => False) w W1) => xlist_any (h.xa.quiet hW) (by omega))
  have C3 := hide (fun (W1 : World) (v u : Value) (lo hi lo' hi' : Nat) (hv : Fr W1 v L lo hi) (hu : Fr W1 u L lo' hi') => sameFiles_eq v u L hv.own.in_ hu.own.in_ (by omega))
  clear h
  go_enter Try.func16, Try.ntmps16
  go_wp2_with fail
  refine (unhide C1 _ (Only.refl _ _)).mono ?_
  rintro e w1 ⟨a, rfl, ha, hab, ho1⟩
  have a1 := Fr.new ha hab
  have s1 := ho1.size
  clear ha hab
  go_wp2_with fail
  refine (unhide C2 _ ho1).mono ?_
  rintro e w2 ⟨b, rfl, hb, hbb, ho2⟩
  have b2 := Fr.new hb hbb
  have a2 := a1.q ho2
  have s2 := ho2.size
  have ho2 := ho1.trans ho2 (fun _ _ h => h)
  clear hb hbb a1 ho1
  go_wp2_with fail
  refine (unhide C3 _ _ _ _ _ _ _ a2 b2).mono ?_
  rintro e w3 ⟨rfl, ho3⟩
  have b3 := b2.q ho3
  have a3 := a2.q ho3
  have s3 := ho3.size
  have ho3 := ho2.trans ho3 (fun _ _ h => h)
  clear a2 b2 ho2
  cases once with
  | true =>
    go_wp2_with fail
    refine (a3.spoil).mono ?_
    rintro e w4 ⟨rfl, ho4⟩
    go_wp2_with fail
    go_ret
    exact ⟨rfl, ho3.trans ho4 (fun k hk e => by omega)⟩
  | false =>
    go_wp2_with fail
    refine (unhide C1 _ ho3).mono ?_
    rintro e w4 ⟨c, rfl, hc, hcb, ho4⟩
    have c4 := Fr.new hc hcb
    have b4 := b3.q ho4
    have a4 := a3.q ho4
    have s4 := ho4.size
    have ho4 := ho3.trans ho4 (fun _ _ h => h)
    clear hc hcb a3 b3 ho3
    go_wp2_with fail
    refine (unhide C1 _ ho4).mono ?_
    rintro e w5 ⟨d, rfl, hd, hdb, ho5⟩
    have d5 := Fr.new hd hdb
    have c5 := c4.q ho5
    have b5 := b4.q ho5
    have a5 := a4.q ho5
    have s5 := ho5.size
    have ho5 := ho4.trans ho5 (fun _ _ h => h)
    clear hd hdb a4 b4 c4 ho4
    go_wp2_with fail
    refine (a5.spoil).mono ?_
    rintro e w6 ⟨rfl, ho6⟩
    have d6 := d5.on ho6 (fun k hk => by omega)
    have c6 := c5.on ho6 (fun k hk => by omega)
    have b6 := b5.on ho6 (fun k hk => by omega)
    have s6 := ho6.size
    have ho6 := ho5.trans ho6 (fun k hk e => by omega)
    clear a5 b5 c5 d5 ho5
    go_wp2_with fail
    refine (unhide C3 _ _ _ _ _ _ _ c6 b6).mono ?_
    rintro e w7 ⟨rfl, ho7⟩
    have d7 := d6.q ho7
    have c7 := c6.q ho7
    have b7 := b6.q ho7
    have s7 := ho7.size
    have ho7 := ho6.trans ho7 (fun _ _ h => h)
    clear b6 c6 d6 ho6
    go_wp2_with fail
    refine (c7.spoil).mono ?_
    rintro e w8 ⟨rfl, ho8⟩
    have d8 := d7.on ho8 (fun k hk => by omega)
    have b8 := b7.on ho8 (fun k hk => by omega)
    have s8 := ho8.size
    have ho8 := ho7.trans ho8 (fun k hk e => by omega)
    clear b7 c7 d7 ho7
    go_wp2_with fail
    refine (unhide C3 _ _ _ _ _ _ _ d8 b8).mono ?_
    rintro e w9 ⟨rfl, ho9⟩
    have d9 := d8.q ho9
    have s9 := ho9.size
    have ho9 := ho8.trans ho9 (fun _ _ h => h)
    clear b8 d8 ho8
    go_wp2_with fail
    refine (d9.spoil).mono ?_
    rintro e w10 ⟨rfl, ho10⟩
    have ho10 := ho9.trans ho10 (fun k hk e => by omega)
    clear d9 ho9
    go_wp2_with fail
    go_ret
    exact ⟨rfl, ho10⟩
set_option maxRecDepth 100000 in
set_option maxHeartbeats 1000000 in
theorem sameLoad_any (h : JX w x m L H) (v : Value) (l : List Fl) (hv : OwnF w v l) (hl : l.length ≤ 9) (hvx : ∀ y, v.ownBlock = some y → y ≠ x ∧ ¬ H y) :
    Calls Try.prog 14 #[.pointer (some ⟨x, 0, none⟩), .pointer (some ⟨m, 0, none⟩), v] w fun e w' => e = .returned (.bool true) ∧ JP w w' x m H := by
  have hxl := h.ix.lt
  have hml := h.xa.lt
  have hvl := own_lt hv
  have er : ((checkF l : Int) == (checkF l : Int)) = true := by simp
  have C1 := hide (fun W1 (hW : OwnF W1 v l) => copyFiles_any v l hW.in_ (by omega))
  go_enter Try.func14, Try.ntmps14
  go_wp2_with fail
  refine (unhide C1 _ hv).mono ?_
  rintro e w1 ⟨a, rfl, ha, hab, ho1⟩
  have a1 := Fr.new ha hab
  have s1 := ho1.size
  have v1 := hv.keep ho1 (fun _ _ h => h)
  have h1 := h.ix.keep ho1 (fun h => h)
  have hax : a.ownBlock ≠ some x := fun e => by have := hab x e; omega
  have C2 := hide (iload_any h1 a l ha.in_ hax)
  clear ha hab
  go_wp2_with fail
  refine (unhide C2).mono ?_
  rintro e w2 ⟨rfl, h2, ho2⟩
  have s2 := ho2.size
  have v2 := v1.keep ho2 (fun k hk => (hvx k hk).1)
  have a2 := a1.on ho2 (fun k hk => by omega)
  have x2 := (h.xa.quiet ho1).keep ho2 (fun k hk e => h.nx (e ▸ hk))
  clear C2 a1 v1
  go_wp2_with fail
  refine (a2.spoil).mono ?_
  rintro e w3 ⟨rfl, ho3⟩
  have s3 := ho3.size
  have v3 := v2.keep ho3 (fun k hk e => by have := hvl k hk; omega)
  have x3 := x2.keep ho3 (fun k hk e => by have := h.xa.inn k hk; omega)
  clear a2 v2 x2
  go_wp2_with fail
  refine (unhide C1 _ v3).mono ?_
  rintro e w4 ⟨b, rfl, hb, hbb, ho4⟩
  have s4 := ho4.size
  have C4 := hide (xload_any (x3.quiet ho4) b l hb.in_)
  clear hbb C1
  go_wp2_with fail
  refine (unhide C4).mono ?_
  rintro e w5 ⟨rfl, h5, ho5⟩
  go_wp2_with fail
  go_ret
  exact ⟨rfl, h.both ho1 h2 ho2 ((ho3.mono (fun k hk e => .inr e.1)).trans (ho4.mono (fun _ _ h => h.elim)) (fun _ _ h => h)) h5 ho5⟩
end
end Go.Proofs.Qxb6500418a
