/-
  OWN WORK. THE GRAPH: SetHead, SetBranch, DelBranch.
-/
import Derived.Test.Qxb6500417aGreatGP6
namespace Go.Proofs.Qxb6500417aGreat
open Go.RowKit Go.PlainAid
set_option linter.unusedSimpArgs false
set_option linter.unusedVariables false

/-- What a call that turns the running tables alone leaves. -/
structure TabP (w w' : World) (g t s d : Nat) (D B : Nat → Nat) (recs : List Rec) (J : Nat → Sl) (rt : Nat) (F : Nat → Prop) (S A' : GA) : Prop where
  ex : ∃ T', GR w' g t s d D B recs J rt F T' S ∧ absG J T' = A'
  only : Only (fun y => y = g) w w'
section
variable {w w' : World} {g t s d : Nat} {D B : Nat → Nat} {recs : List Rec} {J : Nat → Sl} {rt : Nat} {F : Nat → Prop} {T : Gt} {S : GA}
theorem TabP.same (h : GR w g t s d D B recs J rt F T S) (ho : Only (fun _ => False) w w') : TabP w w' g t s d D B recs J rt F S (absG J T) :=
  ⟨⟨T, h.quiet ho, rfl⟩, ho.mono (fun _ _ h => h.elim)⟩
theorem TabP.of (h : GR w g t s d D B recs J rt F T S) (ho : Only (fun y => y = g) w w') {T' : Gt} (hG : GH w' g t T') (hI : GI J rt T') {A' : GA} (hA : absG J T' = A') : TabP w w' g t s d D B recs J rt F S A' :=
  ⟨⟨T', ⟨h.ts.keepG h.ap ho, hG, h.ap, hI, h.sv⟩, hA⟩, ho⟩
def setHdA (A : GA) (nm : ByteArray) (s m : Int) : GA := { A with hn := nm, hs := if nm.size ≠ 0 then 0 else s.toNat, hm := m.toNat }
def shA (A : GA) (nm : ByteArray) (s m : Int) : GA := if shE A nm s m = 0 then setHdA A nm s m else A
set_option maxRecDepth 100000 in
set_option maxHeartbeats 4000000 in
theorem gsetHd_any (h : GR w g t s d D B recs J rt F T S) (nm : ByteArray) (sq m : Int) :
    Calls Tryz.prog 102 #[.pointer (some ⟨g, 0, none⟩), .agg #[.string nm, .int .i64 sq, .int .i64 m]] w fun e w' => e = .returned (.int .i64 (shE (absG J T) nm sq m : Nat)) ∧ TabP w w' g t s d D B recs J rt F S (shA (absG J T) nm sq m) := by
  have hgi := h.gi
  have hK := Has.new w #[.string nm, .int .i64 sq, .int .i64 m] 58
  have oA := (Only.refl (fun _ => False) w).alloc (.cells #[.string nm, .int .i64 sq, .int .i64 m] 58)
  have CG := fun W => goodName_any nm W
  have CS : ∀ W, Only (fun _ => False) w W → Calls Tryz.prog 139 #[.pointer (some ⟨g, 0, none⟩), .int .i64 sq] W fun e w' => e = .returned (.int .i64 (fG T sq : Nat)) ∧ Only (fun _ => False) W w' := fun W hx => gfind_any (h.gh.quiet hx) hgi.ord (fun k hk => by have := (hgi.tab.cs k hk).2; have := hgi.nx; omega) sq
  have CM : ∀ W, Only (fun _ => False) w W → Calls Tryz.prog 139 #[.pointer (some ⟨g, 0, none⟩), .int .i64 m] W fun e w' => e = .returned (.int .i64 (fG T m : Nat)) ∧ Only (fun _ => False) W w' := fun W hx => gfind_any (h.gh.quiet hx) hgi.ord (fun k hk => by have := (hgi.tab.cs k hk).2; have := hgi.nx; omega) m
  have hS := hgi.has sq
  have hM := hgi.has m
  have H0 := hide h
  have hgl := h.gh.lt
  have HK := hide hK
  have HOA := hide oA
  have CG := hide CG
  have CS := hide CS
  have CM := hide CM
  have HS := hide hS
  have HM := hide hM
  -- the end: name, at, merge are set
  have fin : ∀ (W : World) (a : Nat), Only (fun _ => False) w W → (nm.size ≠ 0 → goodN nm = true ∧ a = 0) → (nm.size = 0 → IsC T.c a ∧ ((T.c a).seq : Int) = sq) → ∀ mm : Nat, ((mm = 0 ∧ m = 0) ∨ (IsC T.c mm ∧ ((T.c mm).seq : Int) = m)) → TabP w (((W.setCell ⟨g, 353, none⟩ (.string nm)).setCell ⟨g, 354, none⟩ (.int .i64 (a : Int))).setCell ⟨g, 355, none⟩ (.int .i64 (mm : Int))) g t s d D B recs J rt F S (setHdA (absG J T) nm sq m) := fun W a hO h1 h2 mm h3 => by
    obtain ⟨gA, gB⟩ := hgi.setHead (nm := nm) (a := a) (m := mm) h1 (fun hz => (h2 hz).1) (by rcases h3 with h3 | h3; exact .inl h3.1; exact .inr h3.1)
    have hG := (((h.gh.quiet hO).putName nm).putAt a).putMg mm
    refine TabP.of h ((((hO.mono (T := fun y => y = g) (fun _ _ h => h.elim)).setCell (fun _ => rfl) _).setCell (fun _ => rfl) _).setCell (fun _ => rfl) _) hG gA ?_
    have e1 : (T.c a).seq = if nm.size ≠ 0 then 0 else sq.toNat := by
      by_cases hz : nm.size ≠ 0
      · rw [if_pos hz, (h1 hz).2, hgi.tab.c0]; rfl
      · rw [if_neg hz]
        have := (h2 (by simpa using hz)).2
        omega
    have e2 : (T.c mm).seq = m.toNat := by
      rcases h3 with ⟨e1, e2⟩ | ⟨_, e2⟩
      · rw [e1, e2, hgi.tab.c0]; rfl
      · omega
    rw [gB, e1, e2]
    rfl
  have Fin := hide fin
  have c0 : (w.alloc (.cells #[.string nm, .int .i64 sq, .int .i64 m] 58)).cell? ⟨w.heap.size, 0, none⟩ = some (.string nm) := hK.cell 0
  clear hK oA hS hM fin hgi c0
  have HOA' : Hid (Only (fun _ => False) (w.alloc (.cells #[.string nm, .int .i64 sq, .int .i64 m] 58)) (w.alloc (.cells #[.string nm, .int .i64 sq, .int .i64 m] 58))) := hide (Only.refl _ _)
  by_cases hz : nm.size ≠ 0
  · have b1 : nm.toList.isEmpty = false := by
      rw [ls_toList]
      cases hl : ls nm with
      | nil => exact absurd (by rw [← ls_len, hl]; rfl) hz
      | cons => rfl
    cases hg : goodN nm with
    | false =>
      have hE : shE (absG J T) nm sq m = 14 := by unfold shE; rw [if_pos (by rw [if_pos hz]; exact hg)]
      have HE := hide hE
      have C1 := (unhide CG) (w.alloc (.cells #[.string nm, .int .i64 sq, .int .i64 m] 58))
      rw [hg] at C1
      have C1 := hide C1
      have RR := hide (TabP.same (unhide H0) (unhide HOA))
      clear hE
      go_enter Tryz.func102, Tryz.ntmps102
      go_wp2_with fail
      refine (unhide C1).mono ?_
      rintro e w1 ⟨rfl, rfl⟩
      clear C1
      go_wp2_with fail
      go_ret
      refine ⟨by rw [unhide HE]; rfl, ?_⟩
      unfold shA
      rw [unhide HE, if_neg (by decide)]
      exact unhide RR
    | true =>
      have C1 := (unhide CG) (w.alloc (.cells #[.string nm, .int .i64 sq, .int .i64 m] 58))
      rw [hg] at C1
      have C1 := hide C1
      have Hg := hide hg
      have hzz := hz
      clear hg
      go_enter Tryz.func102, Tryz.ntmps102
      go_wp2_with fail
      refine (unhide C1).mono ?_
      rintro e w1 ⟨rfl, rfl⟩
      clear C1
      generalize hWA : w.alloc (.cells #[.string nm, .int .i64 sq, .int .i64 m] 58) = WA at *
      clear hWA
      by_cases hm0 : m = 0
      · have b9 : (m == 0) = true := by rw [hm0]; rfl
        have hE : shE (absG J T) nm sq m = 0 := by unfold shE; rw [if_neg (by rw [if_pos hzz, unhide Hg]; simp), if_neg (by intro hx; exact hzz hx.1), if_neg (by intro hx; exact hx.1 hm0)]
        have HE := hide hE
        have RR := hide (unhide Fin WA 0 (unhide HOA) (fun _ => ⟨unhide Hg, rfl⟩) (fun e => absurd e hzz) 0 (.inl ⟨rfl, hm0⟩))
        have cm := ((unhide HK).keep (unhide HOA') (fun h => h)).cell 2
        have cnm := ((unhide HK).keep (unhide HOA') (fun h => h)).cell 0
        have zz := (unhide H0).gh.quiet (unhide HOA)
        have zn := zz.name_
        have za := zz.at__
        have zm := zz.mg_
        have zn0 := (unhide H0).gh.name_
        have za0 := (unhide H0).gh.at__
        have zm0 := (unhide H0).gh.mg_
        clear hE zz
        go_wp2_with fail
        go_ret
        refine ⟨by rw [unhide HE]; rfl, ?_⟩
        unfold shA
        rw [unhide HE, if_pos rfl]
        exact unhide RR
      · have b9 : (m == 0) = false := by simpa using hm0
        have cm := ((unhide HK).keep (unhide HOA') (fun h => h)).cell 2
        have C9 := hide (unhide CM WA (unhide HOA))
        have hM := unhide HM
        obtain ⟨fm, hfm⟩ : ∃ fm, fG T m = fm := ⟨_, rfl⟩
        rw [hfm] at hM C9
        clear hfm
        rcases hM with ⟨rfl, hno⟩ | ⟨hC, hsq2, hyes⟩
        · have hE : shE (absG J T) nm sq m = 17 := by unfold shE; rw [if_neg (by rw [if_pos hzz, unhide Hg]; simp), if_neg (by intro hx; exact hzz hx.1), if_pos ⟨hm0, hno⟩]
          have HE := hide hE
          clear hE hno
          go_wp2_with fail
          refine (unhide C9).mono ?_
          rintro e w9 ⟨rfl, hO9⟩
          have RR := hide (TabP.same (unhide H0) ((unhide HOA).trans hO9 (fun _ _ h => h)))
          clear C9 hO9
          go_wp2_with fail
          go_ret
          refine ⟨by rw [unhide HE]; rfl, ?_⟩
          unfold shA
          rw [unhide HE, if_neg (by decide)]
          exact unhide RR
        · have hE : shE (absG J T) nm sq m = 0 := by unfold shE; rw [if_neg (by rw [if_pos hzz, unhide Hg]; simp), if_neg (by intro hx; exact hzz hx.1), if_neg (by rw [hyes]; simp)]
          have HE := hide hE
          have hf0 : ((fm : Int) == 0) = false := ne_intO (by have := hC.1.1; omega)
          have HC := hide (And.intro hC hsq2)
          clear hE hyes hC hsq2
          go_wp2_with fail
          refine (unhide C9).mono ?_
          rintro e w9 ⟨rfl, hO9⟩
          have RR := hide (unhide Fin w9 0 ((unhide HOA).trans hO9 (fun _ _ h => h)) (fun _ => ⟨unhide Hg, rfl⟩) (fun e => absurd e hzz) fm (.inr (unhide HC)))
          have cnm := (((unhide HK).keep (unhide HOA') (fun h => h)).keep hO9 (fun h => h)).cell 0
          have zz := (unhide H0).gh.quiet ((unhide HOA).trans hO9 (fun _ _ h => h))
          have zn := zz.name_
          have za := zz.at__
          have zm := zz.mg_
          clear C9 hO9 zz
          go_wp2_with fail
          go_ret
          refine ⟨by rw [unhide HE]; rfl, ?_⟩
          unfold shA
          rw [unhide HE, if_pos rfl]
          exact unhide RR
  · have hz0 : nm.size = 0 := by simpa using hz
    have hnm : nm = ⟨#[]⟩ := by
      apply ls_inj
      have : (ls nm).length = 0 := by rw [ls_len]; exact hz0
      rw [List.length_eq_zero_iff.1 this]; rfl
    have b1 : nm.toList.isEmpty = true := by rw [hnm, ls_toList]; rfl
    have C1 := hide (unhide CS _ (unhide HOA))
    have hS := unhide HS
    obtain ⟨fs, hfs⟩ : ∃ fs, fG T sq = fs := ⟨_, rfl⟩
    rw [hfs] at hS C1
    clear hfs hnm
    rcases hS with ⟨rfl, hno⟩ | ⟨hC, hsq, hyes⟩
    · have hE : shE (absG J T) nm sq m = 17 := by unfold shE; rw [if_neg (by rw [if_neg hz]; exact fun h => h), if_pos ⟨hz0, hno⟩]
      have HE := hide hE
      have Hz := hide hz0
      clear hE hno hz hz0
      go_enter Tryz.func102, Tryz.ntmps102
      go_wp2_with fail
      refine (unhide C1).mono ?_
      rintro e w1 ⟨rfl, hO1⟩
      have RR := hide (TabP.same (unhide H0) ((unhide HOA).trans hO1 (fun _ _ h => h)))
      clear C1 hO1
      go_wp2_with fail
      go_ret
      refine ⟨by rw [unhide HE]; rfl, ?_⟩
      unfold shA
      rw [unhide HE, if_neg (by decide)]
      exact unhide RR
    · have hf0 : ((fs : Int) == 0) = false := ne_intO (by have := hC.1.1; omega)
      have HCs := hide (And.intro hC hsq)
      have Hyes := hide hyes
      have Hz := hide hz0
      clear hC hsq hyes hz hz0
      go_enter Tryz.func102, Tryz.ntmps102
      go_wp2_with fail
      refine (unhide C1).mono ?_
      rintro e w1 ⟨rfl, hO1⟩
      have HO1 := hide ((unhide HOA).trans hO1 (fun _ _ h => h))
      have HO1' := hide hO1
      clear C1 hO1
      by_cases hm0 : m = 0
      · have b9 : (m == 0) = true := by rw [hm0]; rfl
        have hE : shE (absG J T) nm sq m = 0 := by unfold shE; rw [if_neg (by rw [if_neg (fun h => h (unhide Hz))]; exact fun h => h), if_neg (by rw [unhide Hyes]; simp), if_neg (by intro hx; exact hx.1 hm0)]
        have HE := hide hE
        have RR := hide (unhide Fin w1 fs (unhide HO1) (fun h => absurd (unhide Hz) h) (fun _ => unhide HCs) 0 (.inl ⟨rfl, hm0⟩))
        have cm := ((unhide HK).keep (unhide HO1') (fun h => h)).cell 2
        have cnm := ((unhide HK).keep (unhide HO1') (fun h => h)).cell 0
        have zz := (unhide H0).gh.quiet (unhide HO1)
        have zn := zz.name_
        have za := zz.at__
        have zm := zz.mg_
        have zn0 := (unhide H0).gh.name_
        have za0 := (unhide H0).gh.at__
        have zm0 := (unhide H0).gh.mg_
        clear hE zz
        go_wp2_with fail
        go_ret
        refine ⟨by rw [unhide HE]; rfl, ?_⟩
        unfold shA
        rw [unhide HE, if_pos rfl]
        exact unhide RR
      · have b9 : (m == 0) = false := by simpa using hm0
        have cm := ((unhide HK).keep (unhide HO1') (fun h => h)).cell 2
        have C9 := hide (unhide CM w1 (unhide HO1))
        have hM := unhide HM
        obtain ⟨fm, hfm⟩ : ∃ fm, fG T m = fm := ⟨_, rfl⟩
        rw [hfm] at hM C9
        clear hfm
        rcases hM with ⟨rfl, hno⟩ | ⟨hC, hsq2, hyes⟩
        · have hE : shE (absG J T) nm sq m = 17 := by unfold shE; rw [if_neg (by rw [if_neg (fun h => h (unhide Hz))]; exact fun h => h), if_neg (by rw [unhide Hyes]; simp), if_pos ⟨hm0, hno⟩]
          have HE := hide hE
          clear hE hno
          go_wp2_with fail
          refine (unhide C9).mono ?_
          rintro e w9 ⟨rfl, hO9⟩
          have RR := hide (TabP.same (unhide H0) ((unhide HO1).trans hO9 (fun _ _ h => h)))
          clear C9 hO9
          go_wp2_with fail
          go_ret
          refine ⟨by rw [unhide HE]; rfl, ?_⟩
          unfold shA
          rw [unhide HE, if_neg (by decide)]
          exact unhide RR
        · have hE : shE (absG J T) nm sq m = 0 := by unfold shE; rw [if_neg (by rw [if_neg (fun h => h (unhide Hz))]; exact fun h => h), if_neg (by rw [unhide Hyes]; simp), if_neg (by rw [hyes]; simp)]
          have HE := hide hE
          have hf0 : ((fm : Int) == 0) = false := ne_intO (by have := hC.1.1; omega)
          have HC := hide (And.intro hC hsq2)
          clear hE hyes hC hsq2
          go_wp2_with fail
          refine (unhide C9).mono ?_
          rintro e w9 ⟨rfl, hO9⟩
          have RR := hide (unhide Fin w9 fs ((unhide HO1).trans hO9 (fun _ _ h => h)) (fun h => absurd (unhide Hz) h) (fun _ => unhide HCs) fm (.inr (unhide HC)))
          have cnm := (((unhide HK).keep (unhide HO1') (fun h => h)).keep hO9 (fun h => h)).cell 0
          have zz := (unhide H0).gh.quiet ((unhide HO1).trans hO9 (fun _ _ h => h))
          have zn := zz.name_
          have za := zz.at__
          have zm := zz.mg_
          clear C9 hO9 zz
          go_wp2_with fail
          go_ret
          refine ⟨by rw [unhide HE]; rfl, ?_⟩
          unfold shA
          rw [unhide HE, if_pos rfl]
          exact unhide RR
end
end Go.Proofs.Qxb6500417aGreat
