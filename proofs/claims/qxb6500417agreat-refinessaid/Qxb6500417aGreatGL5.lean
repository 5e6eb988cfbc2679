/-
  OWN WORK. THE GRAPH LAW: AlikeHistory, Alike (written by tools/gen_gl4.py).
-/
import Derived.Test.Qxb6500417aGreatGL4
import Derived.Test.Qxb6500417aGreatGCk4
import Derived.Test.Qxb6500417aGreatGCol
namespace Go.Proofs.Qxb6500417aGreat
open Go.RowKit Go.PlainAid
set_option linter.unusedSimpArgs false
set_option linter.unusedVariables false

section
variable {w : World} {g t s d : Nat} {D B : Nat → Nat} {recs : List Rec} {J : Nat → Sl} {rt : Nat} {F : Nat → Prop} {T : Gt} {S A S2 : GA} {m : Nat} {lx hz : Bool} {r sr : Int} {H : Nat → Prop}

/-- What AlikeHistory tells. -/
def AhP (R M : GA) (w : World) (e : Ending) (w' : World) : Prop := ∃ b : Bool, e = .returned (.bool b) ∧ (b = true → ∀ x ∈ M.nodes, ndA R (x.seq : Int) = ndA M (x.seq : Int)) ∧ (R = M → b = true) ∧ Only (fun _ => False) w w'
theorem AhP.no {R M : GA} {w w' : World} (h : ¬ R = M) (ho : Only (fun _ => False) w w') : AhP R M w (.returned (.bool false)) w' := ⟨false, rfl, fun e => Bool.noConfusion e, fun e => absurd e h, ho⟩
theorem AhP.yes {R M : GA} {w w' : World} (h : ∀ x ∈ M.nodes, ndA R (x.seq : Int) = ndA M (x.seq : Int)) (ho : Only (fun _ => False) w w') : AhP R M w (.returned (.bool true)) w' := ⟨true, rfl, fun _ => h, fun _ => rfl, ho⟩
set_option maxRecDepth 100000 in
set_option maxHeartbeats 8000000 in
theorem glhist_any (h : GR w g t s d D B recs J rt F T S) (hm : MG w m lx A r S2 sr hz H) (hA : ASm A) (hsq : ∀ x ∈ A.nodes, x.seq < 4611686018427387904) :
    Calls Tryz.prog 39 #[.pointer (some ⟨g, 0, none⟩), .pointer (some ⟨m, 0, none⟩)] w (AhP (absG J T) A w) := by
  have C1 := hide (glprobes_any hm hA hsq)
  obtain ⟨R, hR⟩ : ∃ R, absG J T = R := ⟨_, rfl⟩
  have HN : ∀ (W : World), Only (fun _ => False) w W → ∀ q : Int, Calls Tryz.prog 47 #[.pointer (some ⟨g, 0, none⟩), .pointer (some ⟨m, 0, none⟩), .int .i64 q, .bool true] W fun e w' => ∃ b : Bool, e = .returned (.bool b) ∧ Hid (b = true ↔ ndA R q = ndA A q) ∧ Hid (Only (fun _ => False) W w') := fun W ho q => by
    rw [← hR]
    refine (glNode_any (h.quiet ho) (hm.quiet ho) hA q true).mono ?_
    rintro e w' ⟨b, rfl, h1, h2⟩
    exact ⟨b, rfl, hide h1, hide h2⟩
  have HL : ∀ (W : World), Only (fun _ => False) w W → ∀ q : Int, Calls Tryz.prog 56 #[.pointer (some ⟨g, 0, none⟩), .pointer (some ⟨m, 0, none⟩), .int .i64 q, .bool true] W fun e w' => ∃ b : Bool, e = .returned (.bool b) ∧ Hid (R = A → b = true) ∧ Hid (Only (fun _ => False) W w') := fun W ho q => by
    refine (glLog_any (h.quiet ho) (hm.quiet ho) hA q true).mono ?_
    rintro e w' ⟨b, rfl, h1, h2⟩
    exact ⟨b, rfl, hide (fun e => h1.2 (by rw [hR, e]; exact ⟨rfl, rfl⟩)), hide h2⟩
  have HB : ∀ (W : World), Only (fun _ => False) w W → ∀ p q : Int, Calls Tryz.prog 55 #[.pointer (some ⟨g, 0, none⟩), .pointer (some ⟨m, 0, none⟩), .int .i64 p, .int .i64 q] W fun e w' => ∃ b : Bool, e = .returned (.bool b) ∧ Hid (R = A → b = true) ∧ Hid (Only (fun _ => False) W w') := fun W ho p q => by
    refine (glBase_any (h.quiet ho) (hm.quiet ho) hA p q).mono ?_
    rintro e w' ⟨b, rfl, h1, h2⟩
    exact ⟨b, rfl, hide (fun e => h1.2 (by rw [hR, e])), hide h2⟩
  have HN := hide HN
  have HL := hide HL
  have HB := hide HB
  rw [hR]
  have hpl : (prbA A).length ≤ 42 := by
    unfold prbA seqsA
    rw [List.length_append, List.length_map]
    have := hA.n
    simp; omega
  have Hall : Hid ((∀ j (hj : j < (prbA A).length), ndA R (prbA A)[j] = ndA A (prbA A)[j]) → ∀ x ∈ A.nodes, ndA R (x.seq : Int) = ndA A (x.seq : Int)) := hide (fun hq x hx => by
    have hmem : (x.seq : Int) ∈ prbA A := List.mem_append_left _ (List.mem_map.2 ⟨x, hx, rfl⟩)
    obtain ⟨j, hj, e⟩ := List.getElem_of_mem hmem
    have := hq j hj
    rw [e] at this
    exact this)
  clear h hm hA hsq hR
  generalize prbA A = L at *
  go_enter Tryz.func39, Tryz.ntmps39
  go_wp2_with fail
  refine (unhide C1).mono ?_
  rintro e w1 ⟨v, rfl, hM⟩
  have HI := hide hM.own.in_
  have O1 := hide hM.ho
  obtain ⟨va, vc, rfl⟩ := ownsRow_shape hM.own
  clear C1 hM
  go_wp2_with fail
  go_loopw [6] (fun iv wr => ∃ i : Nat, iv = .int .i64 i ∧ i ≤ L.length ∧ (∀ j (hj : j < L.length), j < i → ndA R L[j] = ndA A L[j]) ∧ Only (fun _ => False) w1 wr) (fun iv _ => L.length - (intOf iv).toNat)
  case atStart => exact ⟨0, rfl, by omega, fun j _ hj => by omega, Only.refl _ _⟩
  case round =>
    obtain ⟨i, rfl, hi, hall, ho⟩ := hrel
    have HO := hide ((unhide O1).trans ho (fun _ _ h => h))
    by_cases hil : i < L.length
    · obtain ⟨gl, _, he, hgl, c0⟩ := ((unhide HI).keep ho (fun _ _ h => h)).cellAt hil
      obtain ⟨rfl, rfl⟩ := slice_eq he
      have a1 : decide ((i : Int) < (L.length : Int)) = true := decide_eq_true (by omega)
      have a1n : decide (i < L.length) = true := decide_eq_true hil
      have a2 : (i : Int) < (L.length : Int) := by omega
      have C2 := hide (unhide HN wr (unhide HO) L[i])
      have Hstep : Hid (ndA R L[i] = ndA A L[i] → ∀ j (hj : j < L.length), j < i + 1 → ndA R L[j] = ndA A L[j]) := hide (fun hh j hj hji => by
        by_cases e : j = i
        · subst e; exact hh
        · exact hall j hj (by omega))
      have HO1 := hide ho
      clear hall ho he
      obtain ⟨q, hq⟩ : ∃ q, L[i] = q := ⟨_, rfl⟩
      rw [hq] at C2 c0 Hstep
      have Hq := hide hq
      clear hq
      go_wp2_with fail
      refine (unhide C2).mono ?_
      rintro e w2 ⟨b, rfl, hb, o2⟩
      clear C2
      cases b with
      | false =>
        have Hno : Hid (¬ R = A) := hide (fun e => by have := (unhide hb).2 (by rw [e]); cases this)
        have OF := hide ((unhide HO).trans (unhide o2) (fun _ _ h => h))
        clear hb
        go_wp2_with fail
        go_ret
        exact AhP.no (unhide Hno) (unhide OF)
      | true =>
        have Hst := hide (unhide Hstep ((unhide hb).1 rfl))
        have O2 := hide ((unhide HO).trans (unhide o2) (fun _ _ h => h))
        have P2 := hide ((unhide HO1).trans (unhide o2) (fun _ _ h => h))
        have k0 := (World.cell?_of_block (a := ⟨gl, i, none⟩) ((unhide o2).block gl hgl (fun h => h))).trans c0
        have hg2 : gl < w2.heap.size := by have := (unhide o2).size; omega
        have C3 := hide (unhide HL w2 (unhide O2) q)
        clear hb Hstep c0 HO HO1 o2 hgl
        go_wp2_with fail
        refine (unhide C3).mono ?_
        rintro e w3 ⟨b, rfl, hb, o3⟩
        clear C3
        have O3 := hide ((unhide O2).trans (unhide o3) (fun _ _ h => h))
        have P3 := hide ((unhide P2).trans (unhide o3) (fun _ _ h => h))
        have k1 := (World.cell?_of_block (a := ⟨gl, i, none⟩) ((unhide o3).block gl hg2 (fun h => h))).trans k0
        have hg3 : gl < w3.heap.size := by have := (unhide o3).size; omega
        clear k0 O2 P2 hg2 o3
        cases b with
        | false =>
          have Hno : Hid (¬ R = A) := hide (fun e => by have := unhide hb e; cases this)
          clear hb
          go_wp2_with fail
          go_ret
          exact AhP.no (unhide Hno) (unhide O3)
        | true =>
          clear hb
          have K1 := hide k1
          clear k1
          go_wp2_with fail
          go_loopw [7] (fun kv wr => ∃ k : Nat, kv = .int .i64 k ∧ k ≤ L.length ∧ Only (fun _ => False) w3 wr) (fun kv _ => L.length - (intOf kv).toNat)
          case atStart => exact ⟨0, rfl, by omega, Only.refl _ _⟩
          case round =>
            obtain ⟨k, rfl, hk, ho⟩ := hrel
            by_cases hkl : k < L.length
            · have P4 := (unhide P3).trans ho (fun _ _ h => h)
              obtain ⟨_, _, he, _, c1⟩ := ((unhide HI).keep P4 (fun _ _ h => h)).cellAt hkl
              obtain ⟨e1, rfl⟩ := slice_eq he
              cases e1
              have c0 := (World.cell?_of_block (a := ⟨gl, i, none⟩) (ho.block gl hg3 (fun h => h))).trans (unhide K1)
              have hgr : gl < wr.heap.size := by have := ho.size; omega
              have b1 : decide ((k : Int) < (L.length : Int)) = true := decide_eq_true (by omega)
              have b1n : decide (k < L.length) = true := decide_eq_true hkl
              have b2 : (k : Int) < (L.length : Int) := by omega
              have od : Only (fun _ => False) wr wr.drew := (Only.refl _ wr).drew
              have C4 : Calls Tryz.prog 55 #[.pointer (some ⟨g, 0, none⟩), .pointer (some ⟨m, 0, none⟩), .int .i64 q, .int .i64 L[k]] wr.drew fun e w' => ∃ b : Bool, e = .returned (.bool b) ∧ Hid (R = A → b = true) ∧ Hid (Only (fun _ => False) wr w') := by
                refine (unhide HB wr.drew (((unhide O3).trans ho (fun _ _ h => h)).trans od (fun _ _ h => h)) q L[k]).mono ?_
                rintro e w' ⟨b, rfl, h1, h2⟩
                exact ⟨b, rfl, h1, hide (od.trans (unhide h2) (fun _ _ h => h))⟩
              have C4 := hide C4
              have HOk := hide ho
              clear ho P4 he od
              generalize L[k] = q2 at *
              go_upto_region 12 with fail
              go_cut [49] (fun v wx => ∃ b : Bool, v = .bool (!b) ∧ (R = A → b = true) ∧ Only (fun _ => False) wr wx)
              case first =>
                go_region_with (first | (go_at_call 55; refine (unhide C4).mono ?_; rintro e w4 ⟨b, rfl, hb, o4⟩))
                all_goals
                  clear C4
                  go_wp2_with fail
                  go_meet
                  first | exact ⟨b, rfl, unhide hb, unhide o4⟩ | exact ⟨b, rfl, unhide hb, (unhide o4).drew⟩
              case rest =>
              obtain ⟨b, rfl, hb, o4⟩ := hcut
              generalize hwc : wc = w4 at *
              clear hwc c0 c1 C4
              have OF := hide (((unhide O3).trans (unhide HOk) (fun _ _ h => h)).trans o4 (fun _ _ h => h))
              have Ok := hide ((unhide HOk).trans o4 (fun _ _ h => h))
              clear o4 HOk
              cases b with
              | false =>
                have Hno : Hid (¬ R = A) := hide (fun e => by have := hb e; cases this)
                clear hb
                go_wp2_with fail
                go_ret
                exact AhP.no (unhide Hno) (unhide OF)
              | true =>
                clear hb
                go_wp2_with fail
                go_roundw
                case rel => exact ⟨k + 1, by go_num, by omega, unhide Ok⟩
                case measure => simp [intOf]; omega
            · have b1 : decide ((k : Int) < (L.length : Int)) = false := decide_eq_false (by omega)
              have b1n : decide (k < L.length) = false := decide_eq_false hkl
              have P4 := hide ((unhide P3).trans ho (fun _ _ h => h))
              go_wp2_with fail
              go_roundw
              case rel => first | exact ⟨i + 1, by go_num, by omega, unhide Hst, unhide P4⟩ | ((repeat apply Exists.intro); exact ⟨⟨i + 1, by go_num, by omega, unhide Hst, unhide P4⟩, rfl⟩)
              case measure => simp [intOf]; omega
    · have a1 : decide ((i : Int) < (L.length : Int)) = false := decide_eq_false (by omega)
      have a1n : decide (i < L.length) = false := decide_eq_false hil
      have Hx := hide (unhide Hall (fun j hj => hall j hj (by omega)))
      clear hall ho
      go_wp2_with fail
      go_ret
      exact AhP.yes (unhide Hx) (unhide HO)
/-- What settles the state. -/
theorem ga_ext {R M : GA} (hR : NdS R.nodes) (hM : NdS M.nodes) (h1 : seqsA R = seqsA M) (h2 : R.nx = M.nx) (h3 : ∀ x ∈ M.nodes, ndA R (x.seq : Int) = ndA M (x.seq : Int)) (h4 : R.refs = M.refs) (h5 : R.hn = M.hn ∧ R.hs = M.hs ∧ R.hm = M.hm) (h6 : R.aux = M.aux) : R = M := by
  have hn : R.nodes = M.nodes := by
    have hl : R.nodes.length = M.nodes.length := by
      have := congrArg List.length h1
      simpa [seqsA] using this
    refine List.ext_getElem hl (fun j q1 q2 => ?_)
    have e : (R.nodes[j].seq : Int) = (M.nodes[j].seq : Int) := by
      have : (seqsA R)[j]? = (seqsA M)[j]? := by rw [h1]
      simpa [seqsA, q1, q2] using this
    have a := ndA_some hR (List.getElem_mem q1) (q := (M.nodes[j].seq : Int)) e
    have b := ndA_some hM (List.getElem_mem q2) (q := (M.nodes[j].seq : Int)) rfl
    have c := h3 _ (List.getElem_mem q2)
    rw [a, b] at c
    exact (Prod.mk.inj c).1
  obtain ⟨a1, a2, a3, a4, a5, a6, a7⟩ := R
  obtain ⟨b1, b2, b3, b4, b5, b6, b7⟩ := M
  obtain ⟨h5a, h5b, h5c⟩ := h5
  simp only at hn h2 h4 h5a h5b h5c h6
  rw [hn, h2, h4, h5a, h5b, h5c, h6]
set_option maxRecDepth 100000 in
set_option maxHeartbeats 8000000 in
theorem galike_any (h : GR w g t s d D B recs J rt F T S) (hm : MG w m lx A r S2 sr hz H) (hA : ASm A) (hsq : ∀ x ∈ A.nodes, x.seq < 4611686018427387904) (d' : Nat) (ex : Bool) :
    Calls Tryz.prog 18 #[.agg #[.pointer (some ⟨d', 0, none⟩), .pointer (some ⟨t, 0, none⟩)], .pointer (some ⟨g, 0, none⟩), .pointer (some ⟨m, 0, none⟩), .bool ex] w (BoolP (absG J T = A ∧ roomC (frJ J) r ex = true) w) := by
  have oA := (Only.refl (fun _ => False) w).alloc (.cells #[.pointer (some ⟨d', 0, none⟩), .pointer (some ⟨t, 0, none⟩)] 30)
  have hB := Has.new w #[.pointer (some ⟨d', 0, none⟩), .pointer (some ⟨t, 0, none⟩)] 30
  have hAr := h.asm
  obtain ⟨R, hR⟩ : ∃ R, absG J T = R := ⟨_, rfl⟩
  obtain ⟨rc, hrc⟩ : ∃ x, roomC (frJ J) r ex = x := ⟨_, rfl⟩
  have K1 : Hid (∀ W, Only (fun _ => False) w W → Calls Tryz.prog 37 #[.pointer (some ⟨g, 0, none⟩), .pointer (some ⟨m, 0, none⟩), .bool true] W fun e w' => ∃ b : Bool, e = .returned (.bool b) ∧ Hid (b = true ↔ seqsA R = seqsA A) ∧ Hid (Only (fun _ => False) W w')) := hide (fun W ho => (glSeqs_any (h.quiet ho) (hm.quiet ho) hA true).mono (by rintro e w' ⟨b, rfl, h1, h2⟩; rw [hR] at h1; exact ⟨b, rfl, hide h1, hide h2⟩))
  have K2 : Hid (∀ W, Only (fun _ => False) w W → Calls Tryz.prog 38 #[.pointer (some ⟨g, 0, none⟩), .pointer (some ⟨m, 0, none⟩)] W fun e w' => ∃ b : Bool, e = .returned (.bool b) ∧ Hid (b = true ↔ R.nx = A.nx) ∧ Hid (Only (fun _ => False) W w')) := hide (fun W ho => (glNext_any (h.quiet ho) (hm.quiet ho)).mono (by rintro e w' ⟨b, rfl, h1, rfl⟩; rw [hR] at h1; exact ⟨b, rfl, hide h1, hide (Only.refl _ _)⟩))
  have K3 : Hid (∀ W, Only (fun _ => False) w W → Calls Tryz.prog 39 #[.pointer (some ⟨g, 0, none⟩), .pointer (some ⟨m, 0, none⟩)] W fun e w' => ∃ b : Bool, e = .returned (.bool b) ∧ Hid ((b = true → ∀ x ∈ A.nodes, ndA R (x.seq : Int) = ndA A (x.seq : Int)) ∧ (R = A → b = true)) ∧ Hid (Only (fun _ => False) W w')) := hide (fun W ho => (glhist_any (h.quiet ho) (hm.quiet ho) hA hsq).mono (by rintro e w' ⟨b, rfl, h1, h2, h3⟩; rw [hR] at h1 h2; exact ⟨b, rfl, hide ⟨h1, h2⟩, hide h3⟩))
  have K4 : Hid (∀ W, Only (fun _ => False) w W → Calls Tryz.prog 40 #[.pointer (some ⟨g, 0, none⟩), .pointer (some ⟨m, 0, none⟩), .bool true] W fun e w' => ∃ b : Bool, e = .returned (.bool b) ∧ Hid (b = true ↔ R.refs = A.refs) ∧ Hid (Only (fun _ => False) W w')) := hide (fun W ho => (glBrs_any (h.quiet ho) (hm.quiet ho) hA true).mono (by rintro e w' ⟨b, rfl, h1, h2⟩; rw [hR] at h1; exact ⟨b, rfl, hide h1, hide h2⟩))
  have K5 : Hid (∀ W, Only (fun _ => False) w W → Calls Tryz.prog 41 #[.pointer (some ⟨g, 0, none⟩), .pointer (some ⟨m, 0, none⟩)] W fun e w' => ∃ b : Bool, e = .returned (.bool b) ∧ Hid (b = true ↔ R.hn = A.hn ∧ R.hs = A.hs ∧ R.hm = A.hm) ∧ Hid (Only (fun _ => False) W w')) := hide (fun W ho => (glHead_any (h.quiet ho) (hm.quiet ho)).mono (by rintro e w' ⟨b, rfl, h1, h2⟩; rw [hR] at h1; exact ⟨b, rfl, hide h1, hide h2⟩))
  have K6 : Hid (∀ W, Only (fun _ => False) w W → Calls Tryz.prog 42 #[.pointer (some ⟨g, 0, none⟩), .pointer (some ⟨m, 0, none⟩), .bool true] W fun e w' => ∃ b : Bool, e = .returned (.bool b) ∧ Hid (b = true ↔ R.aux = A.aux) ∧ Hid (Only (fun _ => False) W w')) := hide (fun W ho => (glAux_any (h.quiet ho) (hm.quiet ho) hA true).mono (by rintro e w' ⟨b, rfl, h1, h2⟩; rw [hR] at h1; exact ⟨b, rfl, hide h1, hide h2⟩))
  have K7 := hide (fun W (ho : Only (fun _ => False) w W) => gchk_any (h.quiet ho))
  have K8 := hide (fun W (ho : Only (fun _ => False) w W) => glRoomIs_any (h.quiet ho) d')
  have K9 : Hid (∀ W, Only (fun _ => False) w W → Calls Tryz.prog 17 #[.agg #[.pointer (some ⟨d', 0, none⟩), .pointer (some ⟨t, 0, none⟩)], .pointer (some ⟨m, 0, none⟩), .bool ex] W fun e w' => e = .returned (.bool rc) ∧ Hid (Only (fun _ => False) W w')) := hide (fun W ho => (glRoom_any (h.quiet ho).ts (hm.quiet ho) d' ex).mono (by rintro e w' ⟨rfl, h2⟩; rw [hrc]; exact ⟨rfl, hide h2⟩))
  rw [hR] at hAr
  rw [hR, hrc]
  have Hext := hide (fun h1 h2 h3 h4 h5 h6 => ga_ext (R := R) (M := A) hAr.s hA.s h1 h2 h3 h4 h5 h6)
  have O0 := hide oA
  have HB := hide hB
  clear h hm hA hsq hR hrc hAr oA hB
  go_enter Tryz.func18, Tryz.ntmps18
  go_upto_region 1 with fail
  generalize w.alloc (.cells #[.pointer (some ⟨d', 0, none⟩), .pointer (some ⟨t, 0, none⟩)] 30) = W0 at *
  generalize w.heap.size = k0 at *

  have C1 := hide (unhide K1 W0 (unhide O0))
  clear K1
  go_wp2_with fail
  refine (unhide C1).mono ?_
  rintro e W1 ⟨b, rfl, hb1, o1⟩
  have O1 := hide ((unhide O0).trans (unhide o1) (fun _ _ h => h))
  have HB := hide ((unhide HB).keep (unhide o1) (fun h => h))
  clear C1 o1 O0
  cases b with
  | false =>
    have Hno : Hid (¬ (R = A ∧ rc = true)) := hide (fun e => by have := (unhide hb1).2 (by rw [e.1]); cases this)
    go_wp2_with fail
    go_ret
    exact BoolP.no (unhide Hno) (unhide O1)
  | true =>
  have E1 := hide ((unhide hb1).1 rfl)
  clear hb1
  have C2 := hide (unhide K2 W1 (unhide O1))
  clear K2
  go_wp2_with fail
  refine (unhide C2).mono ?_
  rintro e W2 ⟨b, rfl, hb2, o2⟩
  have O2 := hide ((unhide O1).trans (unhide o2) (fun _ _ h => h))
  have HB := hide ((unhide HB).keep (unhide o2) (fun h => h))
  clear C2 o2 O1
  cases b with
  | false =>
    have Hno : Hid (¬ (R = A ∧ rc = true)) := hide (fun e => by have := (unhide hb2).2 (by rw [e.1]); cases this)
    go_wp2_with fail
    go_ret
    exact BoolP.no (unhide Hno) (unhide O2)
  | true =>
  have E2 := hide ((unhide hb2).1 rfl)
  clear hb2
  have C3 := hide (unhide K3 W2 (unhide O2))
  clear K3
  go_wp2_with fail
  refine (unhide C3).mono ?_
  rintro e W3 ⟨b, rfl, hb3, o3⟩
  have O3 := hide ((unhide O2).trans (unhide o3) (fun _ _ h => h))
  have HB := hide ((unhide HB).keep (unhide o3) (fun h => h))
  clear C3 o3 O2
  cases b with
  | false =>
    have Hno : Hid (¬ (R = A ∧ rc = true)) := hide (fun e => by have := (unhide hb3).2 e.1; cases this)
    go_wp2_with fail
    go_ret
    exact BoolP.no (unhide Hno) (unhide O3)
  | true =>
  have E3 := hide ((unhide hb3).1 rfl)
  clear hb3
  have C4 := hide (unhide K4 W3 (unhide O3))
  clear K4
  go_wp2_with fail
  refine (unhide C4).mono ?_
  rintro e W4 ⟨b, rfl, hb4, o4⟩
  have O4 := hide ((unhide O3).trans (unhide o4) (fun _ _ h => h))
  have HB := hide ((unhide HB).keep (unhide o4) (fun h => h))
  clear C4 o4 O3
  cases b with
  | false =>
    have Hno : Hid (¬ (R = A ∧ rc = true)) := hide (fun e => by have := (unhide hb4).2 (by rw [e.1]); cases this)
    go_wp2_with fail
    go_ret
    exact BoolP.no (unhide Hno) (unhide O4)
  | true =>
  have E4 := hide ((unhide hb4).1 rfl)
  clear hb4
  have C5 := hide (unhide K5 W4 (unhide O4))
  clear K5
  go_wp2_with fail
  refine (unhide C5).mono ?_
  rintro e W5 ⟨b, rfl, hb5, o5⟩
  have O5 := hide ((unhide O4).trans (unhide o5) (fun _ _ h => h))
  have HB := hide ((unhide HB).keep (unhide o5) (fun h => h))
  clear C5 o5 O4
  cases b with
  | false =>
    have Hno : Hid (¬ (R = A ∧ rc = true)) := hide (fun e => by have := (unhide hb5).2 (by rw [e.1]; exact ⟨rfl, rfl, rfl⟩); cases this)
    go_wp2_with fail
    go_ret
    exact BoolP.no (unhide Hno) (unhide O5)
  | true =>
  have E5 := hide ((unhide hb5).1 rfl)
  clear hb5
  have C6 := hide (unhide K6 W5 (unhide O5))
  clear K6
  go_wp2_with fail
  refine (unhide C6).mono ?_
  rintro e W6 ⟨b, rfl, hb6, o6⟩
  have O6 := hide ((unhide O5).trans (unhide o6) (fun _ _ h => h))
  have HB := hide ((unhide HB).keep (unhide o6) (fun h => h))
  clear C6 o6 O5
  cases b with
  | false =>
    have Hno : Hid (¬ (R = A ∧ rc = true)) := hide (fun e => by have := (unhide hb6).2 (by rw [e.1]); cases this)
    go_wp2_with fail
    go_ret
    exact BoolP.no (unhide Hno) (unhide O6)
  | true =>
  have E6 := hide ((unhide hb6).1 rfl)
  clear hb6
  have Heq := hide (unhide Hext (unhide E1) (unhide E2) (unhide E3) (unhide E4) (unhide E5) (unhide E6))
  clear Hext E1 E2 E3 E4 E5 E6
  have C7 := hide (unhide K7 W6 (unhide O6))
  clear K7
  go_wp2_with fail
  refine (unhide C7).mono ?_
  rintro e W7 ⟨rfl, o7⟩
  have O7 := hide ((unhide O6).trans o7 (fun _ _ h => h))
  have HB := hide ((unhide HB).keep o7 (fun h => h))
  clear C7 o7 O6
  have x0 := (unhide HB).cell 0
  have x1 := (unhide HB).cell 1
  have xl := (unhide HB).lt
  simp only [List.getElem?_toArray, List.getElem?_cons_zero, List.getElem?_cons_succ] at x0 x1
  have C8 := hide (unhide K8 W7 (unhide O7))
  clear K8
  go_wp2_with fail
  refine (unhide C8).mono ?_
  rintro e W8 ⟨rfl, o8⟩
  have O8 := hide ((unhide O7).trans o8 (fun _ _ h => h))
  have HB := hide ((unhide HB).keep o8 (fun h => h))
  clear C8 o8 O7 x0 x1 xl
  have x0 := (unhide HB).cell 0
  have x1 := (unhide HB).cell 1
  have xl := (unhide HB).lt
  simp only [List.getElem?_toArray, List.getElem?_cons_zero, List.getElem?_cons_succ] at x0 x1
  have C9 := hide (unhide K9 W8 (unhide O8))
  clear K9
  go_wp2_with fail
  refine (unhide C9).mono ?_
  rintro e W9 ⟨rfl, o9⟩
  have O9 := hide ((unhide O8).trans (unhide o9) (fun _ _ h => h))
  clear C9 o9 O8 x0 x1 xl
  cases rc with
  | false =>
    go_wp2_with fail
    go_ret
    exact BoolP.no (fun e => by cases e.2) (unhide O9)
  | true =>
    go_wp2_with fail
    go_ret
    exact BoolP.yes ⟨unhide Heq, by first | trivial | rfl⟩ (unhide O9)
end
end Go.Proofs.Qxb6500417aGreat
