/-
  OWN WORK. THE B-TREE: Insert of a new key.
-/
import Derived.Test.Qxb6500412aGreatBOpA
namespace Go.Proofs.Qxb6500412aGreat
open Go.RowKit Go.PlainAid
set_option linter.unusedSimpArgs false
set_option linter.unusedVariables false

theorem wpList_load_ndw {ops : Array Oper} {rest : List Oper} {o : Oper} {a : Act} {w : World} {Q : Exit → Act → World → Prop} (hw : Region.wanted o (yielded ops a.tmps) = true) (x : Operand) (ho : o.op = .load 218 x) (g : Nat) (hx : a.eval x = .pointer (some ⟨g, 0, none⟩)) {nd : Node} (h : NdAt w g nd)
    (hK : wpList Tryz.prog ops Q rest (a.put o.dst (ndA nd)) w) : wpList Tryz.prog ops Q (o :: rest) a w :=
  wpList_step fun _ hK2 => by
    rw [if_pos hw]
    exact wp_load_row 218 x ho g hx 218 (tabV 15 (ndc nd)) (0, 0) _ h Tryz.underlying218 rfl (by rw [nd_size, tabV_size]) (hK2 _ _ hK)
theorem PutB.cov {N N1 : Nat → Option ByteArray} {h : Nat} {s : ByteArray} {hi : Option ByteArray} {k v up : ByteArray} {t t1 t2 : Tr (h + 1)} {fresh : List Nat} (P : PutB N N1 h s hi k v t t1 t2 up fresh) {us : List Nat} (hc : Cov N us) (hst : Sto N (h + 1) t) : Cov N1 (fresh ++ us) := by
  intro n b hb
  by_cases h1 : n ∈ fresh
  · simp [h1]
  · by_cases h2 : n ∈ pgs (h + 1) t
    · obtain ⟨b', hb'⟩ := hst.some n h2
      have := hc n b' hb'
      simp [this]
    · rw [P.fr.out n h2 h1] at hb
      have := hc n b hb
      simp [this]
theorem PutB.few {N N1 : Nat → Option ByteArray} {h : Nat} {s : ByteArray} {hi : Option ByteArray} {k v up : ByteArray} {t t1 t2 : Tr (h + 1)} {fresh : List Nat} (P : PutB N N1 h s hi k v t t1 t2 up fresh) : fresh.length + (pgs (h + 1) t).length + 1 ≤ (entsL h (itT t)).length := by
  have l1 := Sz.thrift bE P.z1
  have l2 := Sz.thrift bE P.z2
  rw [ents_succ] at l1 l2
  have l3 := P.pm.length_eq
  have l4 := congrArg List.length P.en
  rw [putL_len_new (fun e he hk => P.new ⟨e, he, hk⟩)] at l4
  simp at l3 l4
  omega
section
variable {q : Gnd} {w : World} {view : List ByteArray} {F : Fo}
set_option maxRecDepth 100000 in
theorem binsert_full (A : FA q w true view) (I : FI (NV view) F) {h : Int} {r : Root} (hf : Fz F h = some r) (k v : ByteArray) (hk16 : k.size ≤ 16) (hv16 : v.size ≤ 16) (hk : getL k (entsL r.h (itT r.t)) = none) (ht : 64 ≤ (all8 entsR F).length) :
    Calls Tryz.prog 237 #[.pointer (some ⟨q.f, 0, none⟩), .int .i64 h, .string k, .string v] w (Same q true view 6 w) := by
  have T := I.tree hf
  have z1 := T.z1
  have c1 := A.ptr
  have C := hide (qintxn A)
  obtain ⟨d, hn, hd, CR⟩ := rootT_any A I hf
  have CR := hide CR
  have C2 : ∀ w (A : FA q w true view), Calls Tryz.prog 303 #[.pointer (some ⟨q.f, 0, none⟩), .int .i64 (pgT r.t), .string k, .int .i64 8] w fun e w' => e = .returned (.tuple #[.string bE, .int .i64 9]) ∧ FA q w' true view ∧ Only q.S w w' := fun w A => by
    have := find_any (k := k) r.h A T.gd (lt_bE k) trivial 8 T.ht (by omega)
    rw [hk] at this
    exact this
  have C2 := hide C2
  have a1 : decide ((k.size : Int) > 16) = false := decide_eq_false (by omega)
  have a1p : ¬ (16 < (k.size : Int)) := by omega
  have a2 : decide ((v.size : Int) > 16) = false := decide_eq_false (by omega)
  have a2p : ¬ (16 < (v.size : Int)) := by omega
  have hs := hd.sz
  have ct64 := I.ct
  have ct : (all8 entsR F).length = 64 := by omega
  have q8 : 8 < d.size := by omega
  have hct := hd.ct
  rw [ct] at hct
  have x1 := wrap_byte d 8 q8
  rw [hct] at x1
  clear hn hd hf T hk ct hct ct64 ht
  go_enter Tryz.func237, Tryz.ntmps237
  go_wp2_with fail
  refine (unhide C).mono ?_
  rintro e w1 ⟨rfl, rfl⟩
  go_wp2_with fail
  refine (unhide CR).mono ?_
  rintro e w1 ⟨rfl, A1, o1⟩
  have C3 := hide (unhide C2 w1 A1)
  have O1 := hide o1
  clear A1 o1 C2
  go_wp2_with fail
  refine (unhide C3).mono ?_
  rintro e w2 ⟨rfl, A2, o2⟩
  have FF := hide (And.intro A2 ((unhide O1).qt o2))
  clear A2 o2
  go_wp2_with fail
  go_ret
  exact ⟨rfl, unhide FF⟩
set_option maxRecDepth 100000 in
set_option maxHeartbeats 4000000 in
theorem binsert_new (A : FA q w true view) (I : FI (NV view) F) {h : Int} {r : Root} (hf : Fz F h = some r) (k v : ByteArray) (hk16 : k.size ≤ 16) (hv16 : v.size ≤ 16) (hk : getL k (entsL r.h (itT r.t)) = none) (ht : (all8 entsR F).length ≤ 63) :
    Calls Tryz.prog 237 #[.pointer (some ⟨q.f, 0, none⟩), .int .i64 h, .string k, .string v] w fun e w' => e = .returned (.int .i64 0) ∧ Turned q F h.toNat (fun ro => ∃ r', ro = some r' ∧ entsR ro = putL k v (entsR (F h.toNat))) w w' := by
  have T := I.tree hf
  have z1 := T.z1
  have c1 := A.ptr
  have C := hide (qintxn A)
  obtain ⟨d, hn, hd, CR⟩ := rootT_any A I hf
  have CR := hide CR
  have hno : ¬ HasK k (entsL r.h (itT r.t)) := fun ⟨e, he, hke⟩ => by
    have : (getL k (entsL r.h (itT r.t))).isSome = true := getL_isSome.mpr ⟨e, he, hke⟩
    rw [hk] at this; cases this
  have C2 : ∀ w (A : FA q w true view), Calls Tryz.prog 303 #[.pointer (some ⟨q.f, 0, none⟩), .int .i64 (pgT r.t), .string k, .int .i64 8] w fun e w' => e = .returned (.tuple #[.string bE, .int .i64 9]) ∧ FA q w' true view ∧ Only q.S w w' := fun w A => by
    have := find_any (k := k) r.h A T.gd (lt_bE k) trivial 8 T.ht (by omega)
    rw [hk] at this
    exact this
  have C2 := hide C2
  have rm := I.room T.hi ht
  have eF : entsR (F h.toNat) = entsL r.h (itT r.t) := by rw [T.hr]; rfl
  have ePg : pgsR (F h.toNat) = pgs (r.h + 1) r.t := by rw [T.hr]; rfl
  rw [eF, ePg] at rm
  have C4 := hide (fun w (A : FA q w true view) => put_any (k := k) (v := v) r.h A T.gd (lt_bE k) trivial hk16 hv16 I.cov (fun hn => by omega) 8 T.ht (by omega))
  have a1 : decide ((k.size : Int) > 16) = false := decide_eq_false (by omega)
  have a1p : ¬ (16 < (k.size : Int)) := by omega
  have a2 : decide ((v.size : Int) > 16) = false := decide_eq_false (by omega)
  have a2p : ¬ (16 < (v.size : Int)) := by omega
  have hs := hd.sz
  have q8 : 8 < d.size := by omega
  have q08 := T.h8
  have q00 := T.h0
  have HH := hide (And.intro hn (And.intro hd (And.intro T (And.intro hno (And.intro eF rm)))))
  have hct := hd.ct
  obtain ⟨n, hnn⟩ : ∃ n, (all8 entsR F).length = n := ⟨_, rfl⟩
  rw [hnn] at hct ht
  have HN := hide hnn
  have hb8 := byteAt_idx d 8 q8
  rw [hct] at hb8
  have x1 := wrap_byte d 8 q8
  rw [hct] at x1
  have X1 := hide x1
  have HB8 := hide hb8
  have HDN := hide hct
  have b1 : ¬ (64 ≤ (n : Int)) := by clear x1 hb8; omega
  have b1d : decide ((n : Int) ≥ 64) = false := decide_eq_false (by clear x1 hb8; omega)
  clear hn hd hf T hk hno hnn hct eF ePg rm x1 hb8
  go_enter Tryz.func237, Tryz.ntmps237
  go_wp2_with fail
  refine (unhide C).mono ?_
  rintro e w1 ⟨rfl, rfl⟩
  go_wp2_with fail
  refine (unhide CR).mono ?_
  rintro e w1 ⟨rfl, A1, o1⟩
  have C3 := hide (unhide C2 w1 A1)
  have O1 := hide o1
  clear A1 o1 C2
  go_wp2_with fail
  refine (unhide C3).mono ?_
  rintro e w2 ⟨rfl, A2, o2⟩
  have C5 := hide (unhide C4 w2 A2)
  have O2 := hide ((unhide O1).qt o2)
  clear A2 o2 C4
  have x1 := unhide X1
  go_wp2_with fail
  clear x1
  refine (unhide C5).mono ?_
  rintro e w3 ⟨view', fresh, A3, o3, hcase⟩
  have O3 := hide ((unhide O2).qt o3)
  have AA3 := hide A3
  clear A3 o3
  have wn : IntKind.u8.wrap ((n : Int) + 1) = (n : Int) + 1 := IntWalk.u8_in _ (by omega)
  rcases hcase with ⟨t', rfl, P⟩ | ⟨t1, t2, up, rfl, P⟩
  · have en1 : ((n + 1 : Nat) : Int) = (n : Int) + 1 := by omega
    have CA : ∀ w, Calls Tryz.prog 153 #[.string d, .int .i64 8, .int .u8 ((n : Int) + 1)] w fun e w' => e = .returned (.string (withB d 8 (n + 1))) ∧ Only (fun _ => False) w w' := fun w => by
      have := setAt_any d 8 (n + 1) hs (by omega) (by omega) w
      rw [en1] at this
      exact this
    have CA := hide CA
    have PP := hide P
    clear P en1
    unfold bE
    have hb8 := unhide HB8
    go_wp2_with fail
    clear hb8
    refine (unhide CA _).mono ?_
    rintro e w4 ⟨rfl, o4⟩
    have h1 : NV view' 1 = NV view 1 := (unhide PP).fr.out 1 (I.one (unhide HH).2.2.1.hi (unhide HH).2.2.1.hr) (fun hm => by
      have := (unhide PP).fr.new 1 hm
      rw [(unhide HH).1] at this; cases this)
    have A4 := (unhide AA3).quiet o4
    have CP := hide (putDir_any A4 (h1.trans (unhide HH).1) (withB_size d 8 (n + 1) hs (by omega)))
    have O4 := hide ((unhide O3).q0 o4)
    clear o4 A4 h1
    go_wp2_with fail
    refine (unhide CP).mono ?_
    rintro e w5 ⟨rfl, ⟨view5, A5, e5⟩, o5⟩
    have FF := hide (And.intro A5 (And.intro e5 ((unhide O4).qt o5)))
    clear A5 e5 o5
    go_wp2_with fail
    go_ret
    obtain ⟨hn, hd, T, hno, eF, rm⟩ := unhide HH
    have P := unhide PP
    have hnn := unhide HN
    have hul := upd_len F T.hi (some ⟨r.h, t'⟩)
    have eN : entsR (some ⟨r.h, t'⟩) = putL k v (entsL r.h (itT r.t)) := P.en
    have hl := putL_len_new (k := k) (v := v) (l := entsL r.h (itT r.t)) (fun e he hk => hno ⟨e, he, hk⟩)
    have hlen : (all8 entsR (upd F h.toNat (some ⟨r.h, t'⟩))).length = n + 1 := by rw [eF, eN, hl] at hul; omega
    have hD := Dir.cnt (d := d) (G := upd F h.toNat (some ⟨r.h, t'⟩)) hs (fun j hj => by
      by_cases e : j = h.toNat
      · subst e
        rw [upd_same, hd.rt _ hj, T.hr]
        exact P.pg.symm
      · rw [upd_other _ _ e, hd.rt j hj]) (by omega)
    rw [hlen] at hD
    have hI := I.putA T.hi T.hr P hD (by omega)
    rw [← (unhide FF).2.1] at hI
    exact ⟨rfl, view5, some ⟨r.h, t'⟩, ⟨_, rfl, by rw [eN, eF]⟩, (unhide FF).1, hI, (unhide FF).2.2⟩
  · have hp2 : 1 ≤ pgT t2 := NV_pos _ _ P.s2.1
    have z2 : ((pgT t2 : Int) == 0) = false := by simp; omega
    have z2' : ((pgT t2 : Int) != 0) = true := by simp; omega
    have PP := hide P
    clear P hp2
    go_upto_region 21 with (first | (refine wpList_alloc_ndd 15 rfl rfl rfl ?_; intro b w4 hB gB oB; have HB := hide hB; have OB := hide oB; clear hB oB) | (refine wpList_store_nd rfl _ _ rfl b ⟨2, 2, nd0.K, nd0.V, nd0.C⟩ rfl rfl (unhide HB) ?_; intro w5 n5 o5))
    have gb0 : w.heap.size ≤ b := Nat.le_trans (unhide O3).size gB
    have nSb := A.nS gb0
    have A5 := hide (((unhide AA3).quiet (unhide OB)).loc A gb0 o5)
    have O5 := hide (((unhide O3).q0 (unhide OB)).qn o5 gb0)
    have N5 := hide n5
    clear n5 o5 HB OB gB AA3 O3
    have d0 := (unhide N5).kid0
    have oS := (unhide N5).o1 10 (.int .i64 (pgT r.t : Int))
    have A6 := hide ((unhide A5).loc A gb0 oS)
    have O6 := hide ((unhide O5).qn oS gb0)
    have N6 := hide ((unhide N5).setKid0 (pgT r.t))
    clear oS A5 O5 N5
    go_upto_region 22 with fail
    generalize w5.setCell ⟨b, 10, none⟩ (.int .i64 (pgT r.t : Int)) = w6 at *
    clear d0
    have d0 := (unhide N6).kid1
    have oS := (unhide N6).o1 11 (.int .i64 (pgT t2 : Int))
    have A7 := hide ((unhide A6).loc A gb0 oS)
    have O7 := hide ((unhide O6).qn oS gb0)
    have N7 := hide ((unhide N6).setKid1 (pgT t2))
    clear oS A6 O6 N6
    go_upto_region 23 with fail
    generalize w6.setCell ⟨b, 11, none⟩ (.int .i64 (pgT t2 : Int)) = w7 at *
    clear d0
    have d0 := (unhide N7).key0
    have oS := (unhide N7).o1 2 (.string up)
    have A8 := hide ((unhide A7).loc A gb0 oS)
    have O8 := hide ((unhide O7).qn oS gb0)
    have N8 := hide ((unhide N7).setKey0 up)
    clear oS A7 O7 N7
    go_upto_region 24 with fail
    generalize w7.setCell ⟨b, 2, none⟩ (.string up) = w8 at *
    clear d0
    have cp := (unhide A8).ptr
    have few := (unhide PP).few
    have CA := hide (qalloc (unhide A8) ((unhide PP).cov I.cov (unhide HH).2.2.1.gd.st) (by rw [List.length_append]; have := (unhide HH).2.2.2.2.2; omega))
    clear few
    go_wp2_with fail
    refine (unhide CA).mono ?_
    rintro e w9 ⟨pn, rfl, ⟨view9, A9, e9⟩, ⟨p1, p72, pnone⟩, o9⟩
    have ry : Rep (r.h + 1) { k := 2, n := 2, K := upF nd0.K 0 up, V := nd0.V, C := upF (upF nd0.C 0 (pgT r.t)) 1 (pgT t2) } [(bE, t1), (up, t2)] := by
      refine ⟨rfl, rfl, fun j f hf => ?_, fun j f hf => ?_⟩
      · match j, hf with
        | 0, hf =>
          simp [pk] at hf
          subst hf
          show upF (upF nd0.C 0 (pgT r.t)) 1 (pgT t2) 0 = pgT t1
          rw [upF_other _ _ _ _ (by omega), upF_same, (unhide PP).pg]
        | 1, hf =>
          simp [pk] at hf
          subst hf
          show upF (upF nd0.C 0 (pgT r.t)) 1 (pgT t2) 1 = pgT t2
          rw [upF_same]
        | j + 2, hf => simp [pk] at hf
      · match j, hf with
        | 0, hf =>
          simp [pk] at hf
          subst hf
          show upF nd0.K 0 up 0 = up
          rw [upF_same]
        | j + 1, hf => simp [pk] at hf
    have l1 := NV_lt _ _ (unhide PP).s1.1
    have l2 := NV_lt _ _ (unhide PP).s2.1
    have ft : Fits (r.h + 1) [(bE, t1), (up, t2)] := by
      refine ⟨by simp, by simp, fun e he => ?_⟩
      simp at he
      rcases he with h | h
      · rw [h]; exact ⟨by show bE.size ≤ 16; decide, show pgT t1 < 256 by omega⟩
      · rw [h]; exact ⟨(unhide PP).up16, show pgT t2 < 256 by omega⟩
    have hN9 : NV view9 pn = some zeroB := by rw [e9]; exact setN_same _ _ _
    have CS := hide (store_any A9 hN9 ry ft)
    have N9 := hide ((unhide N8).keep o9 nSb)
    have O9 := hide ((unhide O8).qt o9)
    have E9 := hide (And.intro e9 (And.intro pnone hN9))
    clear A9 o9 e9 pnone ry ft hN9 cp CA N8 O8 A8
    go_wp2_with (first | (refine wpList_load_ndw (by rfl) _ rfl b rfl (unhide N9) ?_))
    refine (unhide CS).mono ?_
    rintro e w10 ⟨rfl, ⟨view10, A10, e10⟩, o10⟩
    have A10 := hide A10
    have O10 := hide ((unhide O9).qt o10)
    have E10 := hide e10
    clear o10 e10 CS N9
    have hip : h.toNat < 128 := by omega
    have wpn : IntKind.u8.wrap (pn : Int) = (pn : Int) := IntWalk.u8_in _ (by omega)
    have CA1 : ∀ w, Calls Tryz.prog 153 #[.string d, .int .i64 h, .int .u8 (pn : Int)] w fun e w' => e = .returned (.string (withB d h.toNat pn)) ∧ Only (fun _ => False) w w' := fun w => by
      have := setAt_any d h.toNat pn hs hip (by omega) w
      rw [show ((h.toNat : Nat) : Int) = h by omega] at this
      exact this
    have CA1 := hide CA1
    go_wp2_with fail
    refine (unhide CA1 _).mono ?_
    rintro e w11 ⟨rfl, o11⟩
    have s2 := withB_size d h.toNat pn hs hip
    have b2 : byteAt (withB d h.toNat pn) 8 = n := by rw [byteAt_with d h.toNat pn hs hip (by omega) 8 (by omega), if_neg (by omega)]; exact unhide HDN
    obtain ⟨d2, hd2⟩ : ∃ d2, withB d h.toNat pn = d2 := ⟨_, rfl⟩
    rw [hd2] at s2 b2 ⊢
    have q82 : 8 < d2.size := by omega
    have hb8 := byteAt_idx d2 8 q82
    rw [b2] at hb8
    have HB2 := hide hb8
    have HD2 := hide hd2
    have A11 := hide ((unhide A10).quiet o11)
    have O11 := hide ((unhide O10).q0 o11)
    clear hb8 hd2 b2 o11 A10 O10
    have en1 : ((n + 1 : Nat) : Int) = (n : Int) + 1 := by omega
    have CA : ∀ w, Calls Tryz.prog 153 #[.string d2, .int .i64 8, .int .u8 ((n : Int) + 1)] w fun e w' => e = .returned (.string (withB d2 8 (n + 1))) ∧ Only (fun _ => False) w w' := fun w => by
      have := setAt_any d2 8 (n + 1) s2 (by omega) (by omega) w
      rw [en1] at this
      exact this
    have CA := hide CA
    clear en1
    have hb8 := unhide HB2
    go_wp2_with fail
    clear hb8
    refine (unhide CA _).mono ?_
    rintro e w12 ⟨rfl, o12⟩
    have A12 := (unhide A11).quiet o12
    have h11 : NV view' 1 = NV view 1 := (unhide PP).fr.out 1 (I.one (unhide HH).2.2.1.hi (unhide HH).2.2.1.hr) (fun hm => by
      have := (unhide PP).fr.new 1 hm
      rw [(unhide HH).1] at this; cases this)
    have hpn1 : pn ≠ 1 := fun e => by
      have := (unhide E9).2.1
      rw [e, h11, (unhide HH).1] at this; cases this
    have h10 : NV view10 1 = some d := by
      rw [unhide E10, setN_other _ _ (fun e => hpn1 e.symm), (unhide E9).1, setN_other _ _ (fun e => hpn1 e.symm), h11]
      exact (unhide HH).1
    have CP := hide (putDir_any A12 h10 (withB_size d2 8 (n + 1) s2 (by omega)))
    have O12 := hide ((unhide O11).q0 o12)
    clear o12 A12 h10
    go_wp2_with fail
    refine (unhide CP).mono ?_
    rintro e w13 ⟨rfl, ⟨view13, A13, e13⟩, o13⟩
    have FF := hide (And.intro A13 (And.intro e13 ((unhide O12).qt o13)))
    clear A13 e13 o13
    go_wp2_with fail
    go_ret
    obtain ⟨hn, hd, T, hno, eF, rm⟩ := unhide HH
    have P := unhide PP
    have hnn := unhide HN
    have hul := upd_len F T.hi (some ⟨r.h + 1, mkT pn [(bE, t1), (up, t2)]⟩)
    have eN : entsR (some ⟨r.h + 1, mkT pn [(bE, t1), (up, t2)]⟩) = putL k v (entsL r.h (itT r.t)) := by
      rw [← P.en]
      show entsL (r.h + 1) [(bE, t1), (up, t2)] = _
      rw [entsL_cons, entsL_cons, entsL_nil, List.append_nil]
      rfl
    have hl := putL_len_new (k := k) (v := v) (l := entsL r.h (itT r.t)) (fun e he hk => hno ⟨e, he, hk⟩)
    have hlen : (all8 entsR (upd F h.toNat (some ⟨r.h + 1, mkT pn [(bE, t1), (up, t2)]⟩))).length = n + 1 := by rw [eF, eN, hl] at hul; omega
    have hR := hd.root T.hi (ro := some ⟨r.h + 1, mkT pn [(bE, t1), (up, t2)]⟩) (show pn < 256 by omega)
    have hR2 : ∀ j, j < 8 → byteAt d2 j = pgR (upd F h.toNat (some ⟨r.h + 1, mkT pn [(bE, t1), (up, t2)]⟩) j) := by
      intro j hj
      rw [← unhide HD2]
      exact hR.2.1 j hj
    have hD := Dir.cnt (d := d2) (G := upd F h.toNat (some ⟨r.h + 1, mkT pn [(bE, t1), (up, t2)]⟩)) s2 hR2 (by omega)
    rw [hlen] at hD
    have hI := I.putB T.hi T.hr (z := zeroB) P (unhide E9).2.1 hD (by omega)
    rw [← (unhide E9).1, ← unhide E10, ← (unhide FF).2.1] at hI
    exact ⟨rfl, view13, some ⟨r.h + 1, mkT pn [(bE, t1), (up, t2)]⟩, ⟨_, rfl, by rw [eN, eF]⟩, (unhide FF).1, hI, (unhide FF).2.2⟩
end
end Go.Proofs.Qxb6500412aGreat
