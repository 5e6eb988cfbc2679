/-
  OWN WORK. THE LAW OF THE INDEX: SameStatus.
-/
import Derived.Test.Qxb6500418aILB
import Derived.Test.Qxb6500418aIStatW
namespace Go.Proofs.Qxb6500418a
open Go.RowKit Go.PlainAid
set_option linter.unusedSimpArgs false
set_option linter.unusedVariables false

theorem status_len (H X W : List Fl) : (statusL H X W).length ≤ H.length + X.length + W.length := by
  unfold statusL
  have h1 := List.length_filterMap_le (fun f => chgO H X W f.path) (pathsL H X W)
  have h2 := addP_len H []
  have h3 := addP_len X (addP [] H)
  have h4 := addP_len W (addP (addP [] H) X)
  unfold pathsL at h1 ⊢
  simp at h2
  omega
section
variable {w : World} {x m : Nat} {L : List Fl} {H : Nat → Prop}
set_option maxRecDepth 100000 in
set_option maxHeartbeats 4000000 in
theorem sameStatus_any (h : JX w x m L H) (hv wv : Value) (lh lw : List Fl) (hh : OwnF w hv lh) (hw : OwnF w wv lw) (lh9 : lh.length ≤ 9) (lw9 : lw.length ≤ 9) (once : Bool) :
    Calls Try.prog 15 #[.pointer (some ⟨x, 0, none⟩), .pointer (some ⟨m, 0, none⟩), hv, wv, .bool once] w fun e w' => e = .returned (.bool true) ∧ Only (fun _ => False) w w' := by
  have hcnt := h.ix.cnt
  have CA := hide (fun W1 (hW : Only (fun _ => False) w W1) => copyFiles_any hv lh (hh.keep hW (fun _ _ h => h)).in_ (by omega))
  have CB := hide (fun W1 (hW : Only (fun _ => False) w W1) => copyFiles_any wv lw (hw.keep hW (fun _ _ h => h)).in_ (by omega))
  have CS := fun W1 (hW : Only (fun _ => False) w W1) (p q : Value) (a b c d : Nat) (hp : Fr W1 p lh a b) (hq : Fr W1 q lw c d) => istatus_any (h.ix.keep hW (fun h => h)) p q lh lw hp.own.in_ hq.own.in_
  have CX := fun W1 (hW : Only (fun _ => False) w W1) (p q : Value) (a b c d : Nat) (hp : Fr W1 p lh a b) (hq : Fr W1 q lw c d) => xstatus_any (h.xa.quiet hW) hcnt p q lh lw hp.own.in_ hq.own.in_
  have hCs : (if statErr lh lw = 0 then statusL lh L lw else []).length ≤ 1000 := by
    split
    · have := status_len lh L lw; omega
    · simp
  generalize (if statErr lh lw = 0 then statusL lh L lw else []) = Cs at CS CX hCs
  generalize statErr lh lw = E at CS CX
  have CS := hide CS
  have CX := hide CX
  have CC := hide (fun (W1 : World) (v u : Value) (lo hi lo' hi' : Nat) (hv : Fc W1 v Cs lo hi) (hu : Fc W1 u Cs lo' hi') => sameChanges_eq v u Cs hv.own.in_ hu.own.in_ hCs)
  have CFA := hide (fun W1 (hW : Only (fun _ => False) w W1) (p : Value) (a b : Nat) (hp : Fr W1 p lh a b) => sameFiles_eq p hv lh hp.own.in_ (hh.keep hW (fun _ _ h => h)).in_ (by omega))
  have CFB := hide (fun W1 (hW : Only (fun _ => False) w W1) (p : Value) (a b : Nat) (hp : Fr W1 p lw a b) => sameFiles_eq p wv lw hp.own.in_ (hw.keep hW (fun _ _ h => h)).in_ (by omega))
  have e1 : ((E : Int) != (E : Int)) = false := by simp
  have e2 : ((E : Int) == (E : Int)) = true := by simp
  have w0 : World := w
  have ho0 : Only (fun _ => False) w w := Only.refl _ _
  clear h hh hw
  clear w0
  go_enter Try.func15, Try.ntmps15
  go_wp2_with fail
  refine (unhide CA _ ho0).mono ?_
  rintro e w1 ⟨p, rfl, u1, u2, hs1⟩
  have sz1 := hs1.size
  have p1 := Fr.new u1 u2
  have ho1 := ho0.trans hs1 (fun _ _ h => h)
  clear u1 u2 ho0 hs1
  go_wp2_with fail
  refine (unhide CB _ ho1).mono ?_
  rintro e w2 ⟨q, rfl, u1, u2, hs2⟩
  have sz2 := hs2.size
  have p2 := p1.q hs2
  have q2 := Fr.new u1 u2
  have ho2 := ho1.trans hs2 (fun _ _ h => h)
  clear p1 u1 u2 ho1 hs2
  go_wp2_with fail
  refine (unhide CS _ ho2 _ _ _ _ _ _ p2 q2).mono ?_
  rintro e w3 ⟨c, rfl, u1, u2, hs3⟩
  have sz3 := hs3.size
  have p3 := p2.q hs3
  have q3 := q2.q hs3
  have c3 := Fc.new u1 u2
  have ho3 := ho2.trans hs3 (fun _ _ h => h)
  clear p2 q2 u1 u2 ho2 hs3
  cases once with
  | true =>
    go_wp2_with fail
    refine (unhide CA _ ho3).mono ?_
    rintro e w4 ⟨pp, rfl, u1, u2, hs4⟩
    have sz4 := hs4.size
    have p4 := p3.q hs4
    have q4 := q3.q hs4
    have c4 := c3.q hs4
    have pp4 := Fr.new u1 u2
    have ho4 := ho3.trans hs4 (fun _ _ h => h)
    clear p3 q3 c3 u1 u2 ho3 hs4
    go_wp2_with fail
    refine (unhide CB _ ho4).mono ?_
    rintro e w5 ⟨qq, rfl, u1, u2, hs5⟩
    have sz5 := hs5.size
    have p5 := p4.q hs5
    have q5 := q4.q hs5
    have c5 := c4.q hs5
    have pp5 := pp4.q hs5
    have qq5 := Fr.new u1 u2
    have ho5 := ho4.trans hs5 (fun _ _ h => h)
    clear p4 q4 c4 pp4 u1 u2 ho4 hs5
    go_wp2_with fail
    refine (unhide CX _ ho5 _ _ _ _ _ _ pp5 qq5).mono ?_
    rintro e w6 ⟨d, rfl, u1, u2, hs6⟩
    have sz6 := hs6.size
    have p6 := p5.q hs6
    have q6 := q5.q hs6
    have c6 := c5.q hs6
    have pp6 := pp5.q hs6
    have qq6 := qq5.q hs6
    have d6 := Fc.new u1 u2
    have ho6 := ho5.trans hs6 (fun _ _ h => h)
    clear p5 q5 c5 pp5 qq5 u1 u2 ho5 hs6
    clear pp6 qq6
    go_wp2_with fail
    refine (unhide CC _ _ _ _ _ _ _ c6 d6).mono ?_
    rintro e w7 ⟨rfl, hs7⟩
    have sz7 := hs7.size
    have p7 := p6.q hs7
    have q7 := q6.q hs7
    have c7 := c6.q hs7
    have d7 := d6.q hs7
    have ho7 := ho6.trans hs7 (fun _ _ h => h)
    clear p6 q6 c6 d6 ho6 hs7
    go_wp2_with fail
    refine (c7.spoil).mono ?_
    rintro e w8 ⟨rfl, hs8⟩
    have sz8 := hs8.size
    have p8 := p7.on hs8 (fun k hk => by omega)
    have q8 := q7.on hs8 (fun k hk => by omega)
    have d8 := d7.on hs8 (fun k hk => by omega)
    have ho8 := ho7.trans hs8 (fun k hk e => by omega)
    clear p7 q7 d7 c7 ho7 hs8
    go_wp2_with fail
    refine (unhide CFA _ ho8 _ _ _ p8).mono ?_
    rintro e w9 ⟨rfl, hs9⟩
    have sz9 := hs9.size
    have p9 := p8.q hs9
    have q9 := q8.q hs9
    have d9 := d8.q hs9
    have ho9 := ho8.trans hs9 (fun _ _ h => h)
    clear p8 q8 d8 ho8 hs9
    go_wp2_with fail
    refine (unhide CFB _ ho9 _ _ _ q9).mono ?_
    rintro e w10 ⟨rfl, hs10⟩
    have sz10 := hs10.size
    have p10 := p9.q hs10
    have q10 := q9.q hs10
    have d10 := d9.q hs10
    have ho10 := ho9.trans hs10 (fun _ _ h => h)
    clear p9 q9 d9 ho9 hs10
    go_wp2_with fail
    refine (p10.spoil).mono ?_
    rintro e w11 ⟨rfl, hs11⟩
    have sz11 := hs11.size
    have q11 := q10.on hs11 (fun k hk => by omega)
    have d11 := d10.on hs11 (fun k hk => by omega)
    have ho11 := ho10.trans hs11 (fun k hk e => by omega)
    clear q10 d10 p10 ho10 hs11
    go_wp2_with fail
    refine (q11.spoil).mono ?_
    rintro e w12 ⟨rfl, hs12⟩
    have sz12 := hs12.size
    have d12 := d11.on hs12 (fun k hk => by omega)
    have ho12 := ho11.trans hs12 (fun k hk e => by omega)
    clear d11 q11 ho11 hs12
    go_wp2_with fail
    go_ret
    exact ⟨rfl, ho12⟩
  | false =>
    go_wp2_with fail
    refine (unhide CS _ ho3 _ _ _ _ _ _ p3 q3).mono ?_
    rintro e w4 ⟨ca, rfl, u1, u2, hs4⟩
    have sz4 := hs4.size
    have p4 := p3.q hs4
    have q4 := q3.q hs4
    have c4 := c3.q hs4
    have ca4 := Fc.new u1 u2
    have ho4 := ho3.trans hs4 (fun _ _ h => h)
    clear p3 q3 c3 u1 u2 ho3 hs4
    go_wp2_with fail
    refine (unhide CS _ ho4 _ _ _ _ _ _ p4 q4).mono ?_
    rintro e w5 ⟨cb, rfl, u1, u2, hs5⟩
    have sz5 := hs5.size
    have p5 := p4.q hs5
    have q5 := q4.q hs5
    have c5 := c4.q hs5
    have ca5 := ca4.q hs5
    have cb5 := Fc.new u1 u2
    have ho5 := ho4.trans hs5 (fun _ _ h => h)
    clear p4 q4 c4 ca4 u1 u2 ho4 hs5
    go_wp2_with fail
    refine (unhide CA _ ho5).mono ?_
    rintro e w6 ⟨pp, rfl, u1, u2, hs6⟩
    have sz6 := hs6.size
    have p6 := p5.q hs6
    have q6 := q5.q hs6
    have c6 := c5.q hs6
    have ca6 := ca5.q hs6
    have cb6 := cb5.q hs6
    have pp6 := Fr.new u1 u2
    have ho6 := ho5.trans hs6 (fun _ _ h => h)
    clear p5 q5 c5 ca5 cb5 u1 u2 ho5 hs6
    go_wp2_with fail
    refine (unhide CB _ ho6).mono ?_
    rintro e w7 ⟨qq, rfl, u1, u2, hs7⟩
    have sz7 := hs7.size
    have p7 := p6.q hs7
    have q7 := q6.q hs7
    have c7 := c6.q hs7
    have ca7 := ca6.q hs7
    have cb7 := cb6.q hs7
    have pp7 := pp6.q hs7
    have qq7 := Fr.new u1 u2
    have ho7 := ho6.trans hs7 (fun _ _ h => h)
    clear p6 q6 c6 ca6 cb6 pp6 u1 u2 ho6 hs7
    go_wp2_with fail
    refine (unhide CX _ ho7 _ _ _ _ _ _ pp7 qq7).mono ?_
    rintro e w8 ⟨d, rfl, u1, u2, hs8⟩
    have sz8 := hs8.size
    have p8 := p7.q hs8
    have q8 := q7.q hs8
    have c8 := c7.q hs8
    have ca8 := ca7.q hs8
    have cb8 := cb7.q hs8
    have pp8 := pp7.q hs8
    have qq8 := qq7.q hs8
    have d8 := Fc.new u1 u2
    have ho8 := ho7.trans hs8 (fun _ _ h => h)
    clear p7 q7 c7 ca7 cb7 pp7 qq7 u1 u2 ho7 hs8
    clear pp8 qq8
    go_wp2_with fail
    refine (unhide CC _ _ _ _ _ _ _ c8 d8).mono ?_
    rintro e w9 ⟨rfl, hs9⟩
    have sz9 := hs9.size
    have p9 := p8.q hs9
    have q9 := q8.q hs9
    have c9 := c8.q hs9
    have ca9 := ca8.q hs9
    have cb9 := cb8.q hs9
    have d9 := d8.q hs9
    have ho9 := ho8.trans hs9 (fun _ _ h => h)
    clear p8 q8 c8 ca8 cb8 d8 ho8 hs9
    go_wp2_with fail
    refine (c9.spoil).mono ?_
    rintro e w10 ⟨rfl, hs10⟩
    have sz10 := hs10.size
    have p10 := p9.on hs10 (fun k hk => by omega)
    have q10 := q9.on hs10 (fun k hk => by omega)
    have ca10 := ca9.on hs10 (fun k hk => by omega)
    have cb10 := cb9.on hs10 (fun k hk => by omega)
    have d10 := d9.on hs10 (fun k hk => by omega)
    have ho10 := ho9.trans hs10 (fun k hk e => by omega)
    clear p9 q9 ca9 cb9 d9 c9 ho9 hs10
    go_wp2_with fail
    refine (unhide CC _ _ _ _ _ _ _ ca10 d10).mono ?_
    rintro e w11 ⟨rfl, hs11⟩
    have sz11 := hs11.size
    have p11 := p10.q hs11
    have q11 := q10.q hs11
    have ca11 := ca10.q hs11
    have cb11 := cb10.q hs11
    have d11 := d10.q hs11
    have ho11 := ho10.trans hs11 (fun _ _ h => h)
    clear p10 q10 ca10 cb10 d10 ho10 hs11
    go_wp2_with fail
    refine (ca11.spoil).mono ?_
    rintro e w12 ⟨rfl, hs12⟩
    have sz12 := hs12.size
    have p12 := p11.on hs12 (fun k hk => by omega)
    have q12 := q11.on hs12 (fun k hk => by omega)
    have cb12 := cb11.on hs12 (fun k hk => by omega)
    have d12 := d11.on hs12 (fun k hk => by omega)
    have ho12 := ho11.trans hs12 (fun k hk e => by omega)
    clear p11 q11 cb11 d11 ca11 ho11 hs12
    go_wp2_with fail
    refine (unhide CC _ _ _ _ _ _ _ cb12 d12).mono ?_
    rintro e w13 ⟨rfl, hs13⟩
    have sz13 := hs13.size
    have p13 := p12.q hs13
    have q13 := q12.q hs13
    have cb13 := cb12.q hs13
    have d13 := d12.q hs13
    have ho13 := ho12.trans hs13 (fun _ _ h => h)
    clear p12 q12 cb12 d12 ho12 hs13
    go_wp2_with fail
    refine (cb13.spoil).mono ?_
    rintro e w14 ⟨rfl, hs14⟩
    have sz14 := hs14.size
    have p14 := p13.on hs14 (fun k hk => by omega)
    have q14 := q13.on hs14 (fun k hk => by omega)
    have d14 := d13.on hs14 (fun k hk => by omega)
    have ho14 := ho13.trans hs14 (fun k hk e => by omega)
    clear p13 q13 d13 cb13 ho13 hs14
    go_wp2_with fail
    refine (unhide CFA _ ho14 _ _ _ p14).mono ?_
    rintro e w15 ⟨rfl, hs15⟩
    have sz15 := hs15.size
    have p15 := p14.q hs15
    have q15 := q14.q hs15
    have d15 := d14.q hs15
    have ho15 := ho14.trans hs15 (fun _ _ h => h)
    clear p14 q14 d14 ho14 hs15
    go_wp2_with fail
    refine (unhide CFB _ ho15 _ _ _ q15).mono ?_
    rintro e w16 ⟨rfl, hs16⟩
    have sz16 := hs16.size
    have p16 := p15.q hs16
    have q16 := q15.q hs16
    have d16 := d15.q hs16
    have ho16 := ho15.trans hs16 (fun _ _ h => h)
    clear p15 q15 d15 ho15 hs16
    go_wp2_with fail
    refine (p16.spoil).mono ?_
    rintro e w17 ⟨rfl, hs17⟩
    have sz17 := hs17.size
    have q17 := q16.on hs17 (fun k hk => by omega)
    have d17 := d16.on hs17 (fun k hk => by omega)
    have ho17 := ho16.trans hs17 (fun k hk e => by omega)
    clear q16 d16 p16 ho16 hs17
    go_wp2_with fail
    refine (q17.spoil).mono ?_
    rintro e w18 ⟨rfl, hs18⟩
    have sz18 := hs18.size
    have d18 := d17.on hs18 (fun k hk => by omega)
    have ho18 := ho17.trans hs18 (fun k hk e => by omega)
    clear d17 q17 ho17 hs18
    go_wp2_with fail
    go_ret
    exact ⟨rfl, ho18⟩
end
end Go.Proofs.Qxb6500418a
