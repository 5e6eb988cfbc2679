/-
  OWN WORK. THE GRAPH LAW: SameNext, SameMergeBase, SameHead, Free, RoomIs, RoomHolds, Probes (written by tools/gen_gl4.py).
-/
import Derived.Test.Qxb6500417aGreatGL3
namespace Go.Proofs.Qxb6500417aGreat
open Go.RowKit Go.PlainAid
set_option linter.unusedSimpArgs false
set_option linter.unusedVariables false

section
variable {w : World} {g t s d : Nat} {D B : Nat → Nat} {recs : List Rec} {J : Nat → Sl} {rt : Nat} {F : Nat → Prop} {T : Gt} {S A S2 : GA} {m : Nat} {lx hz : Bool} {r sr : Int} {H : Nat → Prop}

theorem glNext_any (h : GR w g t s d D B recs J rt F T S) (hm : MG w m lx A r S2 sr hz H) :
    Calls Tryz.prog 38 #[.pointer (some ⟨g, 0, none⟩), .pointer (some ⟨m, 0, none⟩)] w fun e w' => ∃ b : Bool, e = .returned (.bool b) ∧ (b = true ↔ (absG J T).nx = A.nx) ∧ w = w' := by
  have C1 := gnext_any h.gh
  have C2 := hnext_any hm
  have e1 : (absG J T).nx = T.nx := rfl
  rw [e1]
  clear e1 h hm
  obtain ⟨x, hx⟩ : ∃ x, T.nx = x := ⟨_, rfl⟩
  obtain ⟨y, hy⟩ : ∃ y, A.nx = y := ⟨_, rfl⟩
  rw [hx] at C1 ⊢
  rw [hy] at C2 ⊢
  clear hx hy
  have C1 := hide C1
  have C2 := hide C2
  obtain ⟨be, hbe⟩ : ∃ b : Bool, decide (x = y) = b := ⟨_, rfl⟩
  have cbe : ((x : Int) == (y : Int)) = be := by
    rw [← hbe]
    by_cases e : x = y
    · rw [e]; simp
    · rw [decide_eq_false e]; exact ne_intO (by omega)
  have Hbe : Hid (be = true ↔ x = y) := hide (by rw [← hbe]; exact decide_eq_true_iff)
  clear hbe
  go_enter Tryz.func38, Tryz.ntmps38
  go_wp2_with fail
  refine (unhide C1).mono ?_
  rintro e w1 ⟨rfl, rfl⟩
  clear C1
  go_wp2_with fail
  refine (unhide C2).mono ?_
  rintro e w1 ⟨rfl, rfl⟩
  clear C2
  go_wp2_with fail
  go_ret
  exact ⟨be, rfl, unhide Hbe, rfl⟩
theorem glBase_any (h : GR w g t s d D B recs J rt F T S) (hm : MG w m lx A r S2 sr hz H) (hA : ASm A) (p q : Int) :
    Calls Tryz.prog 55 #[.pointer (some ⟨g, 0, none⟩), .pointer (some ⟨m, 0, none⟩), .int .i64 p, .int .i64 q] w fun e w' => ∃ b : Bool, e = .returned (.bool b) ∧ (b = true ↔ baseV (absG J T) p q = baseV A p q) ∧ Only (fun _ => False) w w' := by
  have C1 := gbase_any h p q
  have HM := hide (fun (W : World) (ho : Only (fun _ => False) w W) => hbase_any (hm.quiet ho) hA p q)
  obtain ⟨⟨x, ex⟩, hX⟩ : ∃ X, baseV (absG J T) p q = X := ⟨_, rfl⟩
  obtain ⟨⟨y, ey⟩, hY⟩ : ∃ X, baseV A p q = X := ⟨_, rfl⟩
  rw [hX] at C1 ⊢
  rw [hY] at HM ⊢
  have C1 := hide C1
  clear hX hY h hm hA
  simp only at C1 HM
  obtain ⟨b1, hb1⟩ : ∃ b : Bool, decide (x = y) = b := ⟨_, rfl⟩
  have cb1 : ((x : Int) == (y : Int)) = b1 := by
    rw [← hb1]
    by_cases e : x = y
    · rw [e]; simp
    · rw [decide_eq_false e]; exact ne_intO (by omega)
  have Hb1 : Hid (b1 = true ↔ x = y) := hide (by rw [← hb1]; exact decide_eq_true_iff)
  clear hb1
  obtain ⟨be, hbe⟩ : ∃ b : Bool, decide (ex = ey) = b := ⟨_, rfl⟩
  have cbe : ((ex : Int) == (ey : Int)) = be := by
    rw [← hbe]
    by_cases e : ex = ey
    · rw [e]; simp
    · rw [decide_eq_false e]; exact ne_intO (by omega)
  have Hbe : Hid (be = true ↔ ex = ey) := hide (by rw [← hbe]; exact decide_eq_true_iff)
  clear hbe
  go_enter Tryz.func55, Tryz.ntmps55
  go_wp2_with fail
  refine (unhide C1).mono ?_
  rintro e w1 ⟨rfl, o1⟩
  have C2 := hide (unhide HM w1 o1)
  clear C1
  go_wp2_with fail
  refine (unhide C2).mono ?_
  rintro e w2 ⟨rfl, o2⟩
  have O := hide (o1.trans o2 (fun _ _ h => h))
  clear C2 o1 o2
  cases b1 with
  | false =>
    go_wp2_with fail
    go_ret
    exact ⟨false, rfl, ⟨fun e => Bool.noConfusion e, fun e => by have := (unhide Hb1).2 (Prod.mk.inj e).1; cases this⟩, unhide O⟩
  | true =>
    have HB := hide ((unhide Hb1).1 rfl)
    go_wp2_with fail
    go_ret
    exact ⟨be, rfl, ⟨fun e => by rw [unhide HB, (unhide Hbe).1 e], fun e => (unhide Hbe).2 (Prod.mk.inj e).2⟩, unhide O⟩
/-- A bool that tells p. -/
def BoolP (p : Prop) (w : World) (e : Ending) (w' : World) : Prop := ∃ b : Bool, e = .returned (.bool b) ∧ (b = true ↔ p) ∧ Only (fun _ => False) w w'
theorem BoolP.no {p : Prop} {w w' : World} (h : ¬ p) (ho : Only (fun _ => False) w w') : BoolP p w (.returned (.bool false)) w' := ⟨false, rfl, ⟨fun e => Bool.noConfusion e, fun e => absurd e h⟩, ho⟩
theorem BoolP.yes {p : Prop} {w w' : World} (h : p) (ho : Only (fun _ => False) w w') : BoolP p w (.returned (.bool true)) w' := ⟨true, rfl, ⟨fun _ => h, fun _ => rfl⟩, ho⟩
set_option maxRecDepth 100000 in
set_option maxHeartbeats 2000000 in
theorem glHead_any (h : GR w g t s d D B recs J rt F T S) (hm : MG w m lx A r S2 sr hz H) :
    Calls Tryz.prog 41 #[.pointer (some ⟨g, 0, none⟩), .pointer (some ⟨m, 0, none⟩)] w (BoolP ((absG J T).hn = A.hn ∧ (absG J T).hs = A.hs ∧ (absG J T).hm = A.hm) w) := by
  have C1 := ghd_any (J := J) h.gh h.gi.ref h.gi.tab.c0
  have HM := hide (fun (W : World) (ho : Only (fun _ => False) w W) => hhead_any (hm.quiet ho))
  unfold hdV at C1 HM
  obtain ⟨n1, hn1⟩ : ∃ x, (absG J T).hn = x := ⟨_, rfl⟩
  obtain ⟨s1, hs1⟩ : ∃ x, (absG J T).hs = x := ⟨_, rfl⟩
  obtain ⟨m1, hm1⟩ : ∃ x, (absG J T).hm = x := ⟨_, rfl⟩
  obtain ⟨n2, hn2⟩ : ∃ x, A.hn = x := ⟨_, rfl⟩
  obtain ⟨s2, hs2⟩ : ∃ x, A.hs = x := ⟨_, rfl⟩
  obtain ⟨m2, hm2⟩ : ∃ x, A.hm = x := ⟨_, rfl⟩
  rw [hn1, hs1, hm1] at C1 ⊢
  rw [hn2, hs2, hm2] at HM ⊢
  have C1 := hide C1
  clear hn1 hs1 hm1 hn2 hs2 hm2 h hm
  obtain ⟨P, hP⟩ : ∃ P : Prop, (n1 = n2 ∧ s1 = s2 ∧ m1 = m2) = P := ⟨_, rfl⟩
  rw [hP]
  have HI : Hid (P ↔ n1 = n2 ∧ s1 = s2 ∧ m1 = m2) := hide (by rw [← hP])
  clear hP
  obtain ⟨b2, hb2⟩ : ∃ b : Bool, decide (s1 = s2) = b := ⟨_, rfl⟩
  have cb2 : ((s1 : Int) == (s2 : Int)) = b2 := by
    rw [← hb2]
    by_cases e : s1 = s2
    · rw [e]; simp
    · rw [decide_eq_false e]; exact ne_intO (by omega)
  have Hb2 : Hid (b2 = true ↔ s1 = s2) := hide (by rw [← hb2]; exact decide_eq_true_iff)
  clear hb2
  obtain ⟨b3, hb3⟩ : ∃ b : Bool, decide (m1 = m2) = b := ⟨_, rfl⟩
  have cb3 : ((m1 : Int) == (m2 : Int)) = b3 := by
    rw [← hb3]
    by_cases e : m1 = m2
    · rw [e]; simp
    · rw [decide_eq_false e]; exact ne_intO (by omega)
  have Hb3 : Hid (b3 = true ↔ m1 = m2) := hide (by rw [← hb3]; exact decide_eq_true_iff)
  clear hb3
  go_enter Tryz.func41, Tryz.ntmps41
  go_wp2_with fail
  refine (unhide C1).mono ?_
  rintro e w1 ⟨rfl, o1⟩
  have oa := (Only.refl (fun _ => False) w1).alloc (.cells #[.string n1, .int .i64 (s1 : Int), .int .i64 (m1 : Int)] 58)
  have ha := Has.new w1 #[.string n1, .int .i64 (s1 : Int), .int .i64 (m1 : Int)] 58
  have O1 := hide (o1.trans oa (fun _ _ h => h))
  have Ha := hide ha
  clear C1 o1 oa ha
  go_upto_region 2 with fail
  generalize hW1 : w1.alloc (.cells #[.string n1, .int .i64 (s1 : Int), .int .i64 (m1 : Int)] 58) = W1 at *
  clear hW1
  generalize w1.heap.size = k1 at *
  have C2 := hide (unhide HM W1 (unhide O1))
  clear HM
  go_wp2_with fail
  refine (unhide C2).mono ?_
  rintro e w2 ⟨rfl, o2⟩
  have oa := (Only.refl (fun _ => False) w2).alloc (.cells #[.string n2, .int .i64 (s2 : Int), .int .i64 (m2 : Int)] 58)
  have ha := Has.new w2 #[.string n2, .int .i64 (s2 : Int), .int .i64 (m2 : Int)] 58
  have hk1 := ((unhide Ha).keep o2 (fun h => h)).keep oa (fun h => h)
  have O2 := hide (((unhide O1).trans o2 (fun _ _ h => h)).trans oa (fun _ _ h => h))
  have Hc := hide ha
  have Ha2 := hide hk1
  clear C2 o2 oa ha hk1 Ha O1
  go_upto_region 3 with fail
  generalize hW2 : w2.alloc (.cells #[.string n2, .int .i64 (s2 : Int), .int .i64 (m2 : Int)] 58) = W2 at *
  clear hW2
  generalize w2.heap.size = k2 at *
  have x0 := (unhide Ha2).cell 0
  have x1 := (unhide Ha2).cell 1
  have x2 := (unhide Ha2).cell 2
  have y0 := (unhide Hc).cell 0
  have y1 := (unhide Hc).cell 1
  have y2 := (unhide Hc).cell 2
  simp only [List.getElem?_toArray, List.getElem?_cons_zero, List.getElem?_cons_succ] at x0 x1 x2 y0 y1 y2
  have xl := (unhide Ha2).lt
  have yl := (unhide Hc).lt
  by_cases hn : n1 = n2
  · have e0 : (n1.toList == n2.toList) = true := by rw [hn]; simp
    have Hn := hide hn
    clear hn
    cases b2 with
    | false =>
      go_wp2_with fail
      go_ret
      exact BoolP.no (fun e => by have := (unhide Hb2).2 ((unhide HI).1 e).2.1; cases this) (unhide O2)
    | true =>
      have HB := hide ((unhide Hb2).1 rfl)
      cases b3 with
      | false =>
        go_wp2_with fail
        go_ret
        exact BoolP.no (fun e => by have := (unhide Hb3).2 ((unhide HI).1 e).2.2; cases this) (unhide O2)
      | true =>
        have HC := hide ((unhide HI).2 ⟨unhide Hn, unhide HB, (unhide Hb3).1 rfl⟩)
        go_wp2_with fail
        go_ret
        exact BoolP.yes (unhide HC) (unhide O2)
  · have e0 := str_ne hn
    have Hn := hide hn
    clear hn
    go_wp2_with fail
    go_ret
    exact BoolP.no (fun e => absurd ((unhide HI).1 e).1 (unhide Hn)) (unhide O2)
set_option maxRecDepth 100000 in
theorem glfree_any (h : TS w t s d D B recs J rt F) (d' : Nat) :
    Calls Tryz.prog 15 #[.agg #[.pointer (some ⟨d', 0, none⟩), .pointer (some ⟨t, 0, none⟩)]] w fun e w' => e = .returned (.int .i64 (frJ J : Nat)) ∧ Only (fun _ => False) w w' := by
  have oA := (Only.refl (fun _ => False) w).alloc (.cells #[.pointer (some ⟨d', 0, none⟩), .pointer (some ⟨t, 0, none⟩)] 30)
  have hA := Has.new w #[.pointer (some ⟨d', 0, none⟩), .pointer (some ⟨t, 0, none⟩)] 30
  have C1 := hide (tfree_any (h.quiet oA))
  have x1 := hA.cell 1
  have xl := hA.lt
  simp only [List.getElem?_toArray, List.getElem?_cons_zero, List.getElem?_cons_succ] at x1
  have O := hide oA
  clear h oA hA
  go_enter Tryz.func15, Tryz.ntmps15
  go_upto_region 1 with fail
  generalize w.alloc (.cells #[.pointer (some ⟨d', 0, none⟩), .pointer (some ⟨t, 0, none⟩)] 30) = W at *
  generalize w.heap.size = k at *
  go_wp2_with fail
  refine (unhide C1).mono ?_
  rintro e w1 ⟨rfl, rfl⟩
  clear C1
  go_wp2_with fail
  go_ret
  exact ⟨rfl, unhide O⟩
set_option maxRecDepth 100000 in
theorem glRoomIs_any (h : GR w g t s d D B recs J rt F T S) (d' : Nat) :
    Calls Tryz.prog 44 #[.agg #[.pointer (some ⟨d', 0, none⟩), .pointer (some ⟨t, 0, none⟩)], .pointer (some ⟨g, 0, none⟩)] w fun e w' => e = .returned (.bool true) ∧ Only (fun _ => False) w w' := by
  have oA := (Only.refl (fun _ => False) w).alloc (.cells #[.pointer (some ⟨d', 0, none⟩), .pointer (some ⟨t, 0, none⟩)] 30)
  have hA := Has.new w #[.pointer (some ⟨d', 0, none⟩), .pointer (some ⟨t, 0, none⟩)] 30
  have C1 := hide (groom_any (h.quiet oA))
  have C2 := hide (glfree_any (h.quiet oA).ts d')
  have x0 := hA.cell 0
  have x1 := hA.cell 1
  have xl := hA.lt
  simp only [List.getElem?_toArray, List.getElem?_cons_zero, List.getElem?_cons_succ] at x0 x1
  have O := hide oA
  have e0 := eqI ((frJ J : Nat) : Int)
  clear h oA hA
  go_enter Tryz.func44, Tryz.ntmps44
  go_upto_region 1 with fail
  generalize w.alloc (.cells #[.pointer (some ⟨d', 0, none⟩), .pointer (some ⟨t, 0, none⟩)] 30) = W at *
  generalize w.heap.size = k at *
  go_wp2_with fail
  refine (unhide C1).mono ?_
  rintro e w1 ⟨rfl, rfl⟩
  clear C1
  go_wp2_with fail
  refine (unhide C2).mono ?_
  rintro e w2 ⟨rfl, o2⟩
  clear C2
  have O2 := hide ((unhide O).trans o2 (fun _ _ h => h))
  clear o2
  go_wp2_with fail
  go_ret
  exact ⟨rfl, unhide O2⟩
/-- The clause on room. -/
def roomC (f : Nat) (r : Int) (exact_ : Bool) : Bool := if exact_ = true then decide ((f : Int) = r) else decide (r ≤ (f : Int))
set_option maxRecDepth 100000 in
theorem glRoom_any (h : TS w t s d D B recs J rt F) (hm : MG w m lx A r S2 sr hz H) (d' : Nat) (ex : Bool) :
    Calls Tryz.prog 17 #[.agg #[.pointer (some ⟨d', 0, none⟩), .pointer (some ⟨t, 0, none⟩)], .pointer (some ⟨m, 0, none⟩), .bool ex] w fun e w' => e = .returned (.bool (roomC (frJ J) r ex)) ∧ Only (fun _ => False) w w' := by
  have oA := (Only.refl (fun _ => False) w).alloc (.cells #[.pointer (some ⟨d', 0, none⟩), .pointer (some ⟨t, 0, none⟩)] 30)
  have hA := Has.new w #[.pointer (some ⟨d', 0, none⟩), .pointer (some ⟨t, 0, none⟩)] 30
  have C1 := hide (glfree_any (h.quiet oA) d')
  have HM := hide (fun (W : World) (ho : Only (fun _ => False) w W) => hroom_any (hm.quiet ho))
  have x0 := hA.cell 0
  have x1 := hA.cell 1
  have xl := hA.lt
  simp only [List.getElem?_toArray, List.getElem?_cons_zero, List.getElem?_cons_succ] at x0 x1
  have O := hide oA
  obtain ⟨f, hf⟩ : ∃ f, frJ J = f := ⟨_, rfl⟩
  rw [hf] at C1 ⊢
  clear h oA hA hf hm
  go_enter Tryz.func17, Tryz.ntmps17
  go_upto_region 1 with fail
  generalize w.alloc (.cells #[.pointer (some ⟨d', 0, none⟩), .pointer (some ⟨t, 0, none⟩)] 30) = W at *
  generalize w.heap.size = k at *
  go_wp2_with fail
  refine (unhide C1).mono ?_
  rintro e w1 ⟨rfl, o1⟩
  have O2 := hide ((unhide O).trans o1 (fun _ _ h => h))
  have C2 := hide (unhide HM w1 (unhide O2))
  clear C1 o1 HM O
  go_wp2_with fail
  refine (unhide C2).mono ?_
  rintro e w2 ⟨rfl, rfl⟩
  clear C2
  cases ex with
  | true =>
    obtain ⟨b, hb⟩ : ∃ b : Bool, decide ((f : Int) = r) = b := ⟨_, rfl⟩
    have e1 : ((f : Int) == r) = b := by rw [← hb]; rfl
    have HR : Hid (roomC f r true = b) := hide (by rw [← hb]; rfl)
    clear hb
    go_wp2_with fail
    go_ret
    exact ⟨by rw [unhide HR]; rfl, unhide O2⟩
  | false =>
    obtain ⟨b, hb⟩ : ∃ b : Bool, decide (r ≤ (f : Int)) = b := ⟨_, rfl⟩
    have e1 : decide ((f : Int) ≥ r) = b := hb
    have HR : Hid (roomC f r false = b) := hide (by rw [← hb]; rfl)
    go_wp2_with fail
    go_ret
    exact ⟨by rw [unhide HR]; rfl, unhide O2⟩
/-- The Seqs at which Alike asks. -/
def topL (L : List Int) : Int := if h : 0 < L.length then L[L.length - 1]'(by omega) else 0
def prbA (A : GA) : List Int := seqsA A ++ [0, topL (seqsA A) + 1]
theorem II.two {w : World} {v v' : Value} {l : List Int} {w1 w2 : World} {o : Obj} {n : Nat} {x y : Int} (h : II w v l w1) (hown : w2.ownsRow 0 3 1 v' n (iV l ++ [.int .i64 x, .int .i64 y])) (hn : n = l.length + 2) (hgrow : (w1.alloc o).grownBy w2 v.ownBlock) (hwhere : ∀ k, v'.ownBlock = some k → v.ownBlock = some k ∨ k = w1.heap.size + 1) : II w v' (l ++ [x, y]) w2 := by
  have hs := h.ho.size
  refine ⟨?_, fun y hy => ?_, (h.ho.alloc _).grown hgrow (fun b hb hlt => by have := h.hb b hb; omega)⟩
  · unfold OwnI
    have e : iV (l ++ [x, y]) = iV l ++ [.int .i64 x, .int .i64 y] := by simp [iV]
    rw [e, List.length_append]
    show w2.ownsRow 0 3 1 v' (l.length + 2) _
    rw [← hn]
    exact hown
  · rcases hwhere y hy with e | e
    · exact h.hb y e
    · omega
set_option maxRecDepth 100000 in
set_option maxHeartbeats 2000000 in
theorem glprobes_any (hm : MG w m lx A r S2 sr hz H) (hA : ASm A) (hsq : ∀ x ∈ A.nodes, x.seq < 4611686018427387904) :
    Calls Tryz.prog 77 #[.pointer (some ⟨m, 0, none⟩)] w fun e w' => ∃ v, e = .returned v ∧ II w v (prbA A) w' := by
  obtain ⟨i0, hi0, hz0, hz1, hz2⟩ := info_parts Tryz.infoIntU
  have C1 := hide (hseqs_any hm hA)
  have hl : (seqsA A).length ≤ 40 := by unfold seqsA; rw [List.length_map]; exact hA.n
  have hp : prbA A = seqsA A ++ [0, topL (seqsA A) + 1] := rfl
  have hb : ∀ x ∈ seqsA A, 0 ≤ x ∧ x < 4611686018427387904 := fun x hx => by
    unfold seqsA at hx
    obtain ⟨y, hy, rfl⟩ := List.mem_map.1 hx
    have := hsq y hy
    omega
  rw [hp]
  clear hm hA hsq hp
  generalize seqsA A = L at *
  have Hb := hide hb
  obtain ⟨top, htop⟩ : ∃ top, topL L = top := ⟨_, rfl⟩
  rw [htop]
  have Htop := hide htop
  clear hb htop
  go_enter Tryz.func77, Tryz.ntmps77
  go_wp2_with fail
  refine (unhide C1).mono ?_
  rintro e w1 ⟨v, rfl, hM⟩
  have HM := hide hM
  have own2 : w1.ownsRow 0 3 1 _ _ _ := hM.own
  clear C1
  by_cases h0 : 0 < L.length
  · obtain ⟨ga, cap, hve, hgl, cl⟩ := hM.own.in_.cellAt (i := L.length - 1) (by omega)
    subst hve
    have hgd : L[L.length - 1]'(by omega) = top := by
      rw [← unhide Htop]
      unfold topL
      rw [dif_pos h0]
    have hbl := unhide Hb _ (List.getElem_mem (by omega : L.length - 1 < L.length))
    rw [hgd] at cl hbl
    have d1 : decide ((0 : Int) < (L.length : Int)) = true := decide_eq_true (by omega)
    have d1' : decide ((L.length : Int) > 0) = true := decide_eq_true (by omega)
    have d1n : decide (0 < L.length) = true := decide_eq_true h0
    have d2 : (0 : Int) ≤ (L.length : Int) - 1 := by omega
    have d3 : (L.length : Int) - 1 < (L.length : Int) := by omega
    have d4 : ((L.length : Int) - 1).toNat = L.length - 1 := by omega
    clear hM hgd
    go_wp2_with (at_builtin; refine wpList_append2 _ rfl _ _ 91 rfl 3 i0 _ 1 8 Tryz.underlying91 hi0 hz0 hz1 hz2 rfl (by decide) _ _ _ rfl (own2.alloc _) ⟨w1.heap.size, 0, none⟩ 2 2 [.int .i64 0, .int .i64 (top + 1)] rfl rfl ?d1 ?d2 ?d3 ?d4 ?_)
    try (case d1 => exact news_ok _ _ _ _ rfl)
    case d2 => first | (intro u hu; simp at hu; rcases hu with rfl | rfl <;> rfl) | exact ⟨rfl, rfl⟩ | rfl
    case d3 => unfold maxLen; omega
    case d4 => omega
    intro v7 w7 hown hgrow hwhere
    have H7 := hide ((unhide HM).two hown rfl hgrow hwhere)
    clear hown hgrow hwhere own2 HM
    go_wp2_with fail
    go_ret
    exact ⟨_, rfl, unhide H7⟩
  · have hL : L = [] := List.eq_nil_of_length_eq_zero (by omega)
    subst hL
    have ht0 : top = 0 := (unhide Htop).symm
    subst ht0
    obtain ⟨oa, oc, rfl⟩ := ownsRow_shape hM.own
    clear hM
    go_wp2_with (at_builtin; refine wpList_append2 _ rfl _ _ 91 rfl 3 i0 _ 1 8 Tryz.underlying91 hi0 hz0 hz1 hz2 rfl (by decide) _ _ _ rfl (own2.alloc _) ⟨w1.heap.size, 0, none⟩ 2 2 [.int .i64 0, .int .i64 1] rfl rfl ?e1 ?e2 ?e3 ?e4 ?_)
    try (case e1 => exact news_ok _ _ _ _ rfl)
    case e2 => first | (intro u hu; simp at hu; rcases hu with rfl | rfl <;> rfl) | exact ⟨rfl, rfl⟩ | rfl
    case e3 => unfold maxLen; omega
    case e4 => omega
    intro v7 w7 hown hgrow hwhere
    have H7 := hide ((unhide HM).two (x := 0) (y := 1) hown rfl hgrow hwhere)
    clear hown hgrow hwhere own2 HM
    go_wp2_with fail
    go_ret
    exact ⟨_, rfl, unhide H7⟩
end
end Go.Proofs.Qxb6500417aGreat
