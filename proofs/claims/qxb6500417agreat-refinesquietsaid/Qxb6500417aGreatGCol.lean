/-
  OWN WORK. THE GRAPH: Collect.
-/
import Derived.Test.Qxb6500417aGreatGCo2
namespace Go.Proofs.Qxb6500417aGreat
open Go.RowKit Go.PlainAid
set_option linter.unusedSimpArgs false
set_option linter.unusedVariables false

/-- The store holds nothing but what the tables name. -/
def Tight (J : Nat → Sl) (rt : Nat) (T : Gt) : Prop := ∀ j, In j → (J j).st ≠ 0 → liveS (J j) = true ∧ (IsC T.c j ∨ j = rt ∨ (∃ c, IsC T.c c ∧ Desc J (T.c c).tree j) ∨ Desc J T.aux j)
theorem abort_com (J : Nat → Sl) : abortJ (comJ J) = comJ J := by
  funext i
  have h1 : (comJ J i).st ≠ 1 := by
    unfold comJ comS
    split
    · simp [stS]
    · split
      · simp [Sl.free]
      · assumption
  have h3 : (comJ J i).st ≠ 3 := by
    unfold comJ comS
    split
    · simp [stS]
    · split
      · simp [Sl.free]
      · assumption
  show abortS (comJ J i) = comJ J i
  unfold abortS
  rw [if_neg h1, if_neg h3]
/-- What Collect leaves. -/
structure ColP (w w' : World) (g t s d : Nat) (D B : Nat → Nat) (recs : List Rec) (J : Nat → Sl) (rt : Nat) (F : Nat → Prop) (T : Gt) (S : GA) (n e : Nat) : Prop where
  ex : ∃ J' rt' R F' T' S', Went w w' g t s d D B recs J J' rt rt' F R F' ∧ GR w' g t s d (replayB D R) B (recs ++ R) J' rt' F' T' S' ∧ ((e = 0 ∧ S' = collA (absG J T) ∧ absG J' T' = collA (absG J T) ∧ Tight J' rt' T' ∧ 1 ≤ R.length ∧ n + frJ J' = 48 ∧ abortJ J' = J') ∨ (e = 5 ∧ n = 0 ∧ frJ J = 0 ∧ J' = J ∧ rt' = rt ∧ T' = T ∧ S' = S ∧ R = []))
section
variable {J J2 : Nat → Sl} {rt : Nat} {T : Gt} {x i m : Nat}
theorem ColI.desc (h : ColI J T x i m) (hs : Swp J J2 m) {a b : Nat} (ha : m.testBit a = true) (hd : Desc J a b) : Desc (comJ J2) a b ∧ m.testBit b = true := by
  induction hd with
  | self => exact ⟨.self, ha⟩
  | step _ hr ih =>
    have hl := h.live ih.2
    refine ⟨.step ih.1 ?_, h.clos _ hl.1 hl.2 ih.2 _ hr⟩
    rw [(h.stay hs hl.1 ih.2 hl.2).2.rws]
    exact hr
theorem ColI.tight (h : ColI J T x i m) (hs : Swp J J2 m) (hp : pot J2 m = 0) (hI2 : Inv J2) : Tight (comJ J2) i (fgT T x) := fun j hj h0 => by
  have hl : liveS (comJ J2 j) = true := by
    unfold comJ at h0 ⊢
    rcases com_case (hI2.st3 j hj) (hI2.fr j hj) with ⟨e, _⟩ | ⟨e, _⟩
    · rw [e] at h0; exact absurd rfl h0
    · rw [liveS_iff]; exact .inr e
  obtain ⟨a, b, c⟩ := h.back hs hp hj hl
  refine ⟨hl, ?_⟩
  rcases (h.mrk j).1 a with e | e | ⟨k, hk, e⟩ | e
  · exact .inl (h.isC.2 e)
  · exact .inr (.inl e)
  · refine .inr (.inr (.inl ⟨k, h.isC.2 hk, ?_⟩))
    rw [h.cyes hk]
    exact (h.desc hs ((h.mrk _).2 (.inr (.inr (.inl ⟨k, hk, .self⟩)))) e).1
  · exact .inr (.inr (.inr (h.desc hs ((h.mrk _).2 (.inr (.inr (.inr .self)))) e).1))
theorem GI.put4 (h : GI J rt T) : (frJ J = 0 ∧ putJ J 4 (rdat T) = (J, 0, 5)) ∨ ∃ J1 i, putJ J 4 (rdat T) = (J1, i, 0) ∧ Inv J1 ∧ Grow J J1 ∧ (∀ j, In j → liveS (J1 j) = true → (J1 j).kd = 3 → liveS (J j) = true ∧ (J j).kd = 3) ∧ In i ∧ liveS (J1 i) = true ∧ (J1 i).kd = 4 ∧ (J1 i).dat = rdat T := by
  cases putC J 4 (rdat T) with
  | full hp hf => exact .inl ⟨frJ_full hf, hp⟩
  | old i hp hi hl hk hd => exact .inr ⟨J, i, hp, h.inv, Grow.refl J, fun j _ a b => ⟨a, b⟩, hi, hl, hk, hd⟩
  | new i hp hi h0 hno =>
    obtain ⟨hI1, hG1⟩ := h.inv.putNew (dat := rdat T) hi h0 (by omega) (by omega) (by omega : (4 : Nat) ≠ 2)
    refine .inr ⟨_, i, hp, hI1, hG1, fun j hj a b => ?_, hi, by rw [updJ_self]; rfl, by rw [updJ_self], by rw [updJ_self]⟩
    by_cases e : j = i
    · rw [e, updJ_self] at b; simp at b
    · rw [updT_other _ _ _ _ e] at a b; exact ⟨a, b⟩
/-- Marked, the first k commits' trees read. -/
def MrkK (J : Nat → Sl) (T : Gt) (x i k y : Nat) : Prop := ∀ j, y.testBit j = true ↔ x.testBit j = true ∨ j = i ∨ ∃ a, a < k ∧ x.testBit (T.o a) = true ∧ Desc J (T.c (T.o a)).tree j
theorem MrkK.start (J : Nat → Sl) (T : Gt) (x i : Nat) : MrkK J T x i 0 (x ||| 2 ^ i) := fun j => by
  rw [Nat.testBit_or, Nat.testBit_two_pow, Bool.or_eq_true, decide_eq_true_eq]
  constructor
  · rintro (e | e)
    · exact .inl e
    · exact .inr (.inl e.symm)
  · rintro (e | e | ⟨a, h, _⟩)
    · exact .inl e
    · exact .inr e.symm
    · omega
theorem MrkK.yes {k y z : Nat} (h : MrkK J T x i k y) (hb : x.testBit (T.o k) = true) (hz : MkS z y (Desc J (T.c (T.o k)).tree)) : MrkK J T x i (k + 1) z := fun j => by
  rw [hz j, h j]
  constructor
  · rintro ((e | e | ⟨a, h1, h2, h3⟩) | e)
    · exact .inl e
    · exact .inr (.inl e)
    · exact .inr (.inr ⟨a, by omega, h2, h3⟩)
    · exact .inr (.inr ⟨k, by omega, hb, e⟩)
  · rintro (e | e | ⟨a, h1, h2, h3⟩)
    · exact .inl (.inl e)
    · exact .inl (.inr (.inl e))
    · by_cases e : a = k
      · subst e; exact .inr h3
      · exact .inl (.inr (.inr ⟨a, by omega, h2, h3⟩))
theorem MrkK.no {k y : Nat} (h : MrkK J T x i k y) (hb : x.testBit (T.o k) = false) : MrkK J T x i (k + 1) y := fun j => by
  rw [h j]
  constructor
  · rintro (e | e | ⟨a, h1, h2, h3⟩)
    · exact .inl e
    · exact .inr (.inl e)
    · exact .inr (.inr ⟨a, by omega, h2, h3⟩)
  · rintro (e | e | ⟨a, h1, h2, h3⟩)
    · exact .inl e
    · exact .inr (.inl e)
    · refine .inr (.inr ⟨a, ?_, h2, h3⟩)
      have : a ≠ k := fun e => by rw [e, hb] at h2; cases h2
      omega
theorem MrkK.fin {y z : Nat} (h : MrkK J T x i T.n y) (ho : OrdI T.c T.o T.n) (hC : ∀ j, x.testBit j = true → IsC T.c j) (hz : MkS z y (Desc J T.aux)) : ∀ j, z.testBit j = true ↔ MrkP J T x i j := fun j => by
  rw [hz j, h j]
  constructor
  · rintro ((e | e | ⟨a, h1, h2, h3⟩) | e)
    · exact .inl e
    · exact .inr (.inl e)
    · exact .inr (.inr (.inl ⟨_, h2, h3⟩))
    · exact .inr (.inr (.inr e))
  · rintro (e | e | ⟨c, h1, h2⟩ | e)
    · exact .inl (.inl e)
    · exact .inl (.inr (.inl e))
    · obtain ⟨k, hk, rfl⟩ := ho.all c (hC c h1)
      exact .inl (.inr (.inr ⟨k, hk, h1, h2⟩))
    · exact .inr e
end
section
variable {w : World} {g t s d : Nat} {D B : Nat → Nat} {recs : List Rec} {J : Nat → Sl} {rt : Nat} {F : Nat → Prop} {T : Gt} {S : GA}
set_option maxRecDepth 100000 in
set_option maxHeartbeats 8000000 in
theorem gcoll_any (h : GR w g t s d D B recs J rt F T S) (hrl : recs.length ≤ 700) :
    Calls Tryz.prog 113 #[.pointer (some ⟨g, 0, none⟩)] w fun e w' => ∃ n en : Nat, e = .returned (.tuple #[.int .i64 (n : Nat), .int .i64 (en : Nat)]) ∧ ColP w w' g t s d D B recs J rt F T S n en := by
  have C1 := hide (refsBytes_any h.gh h.gi.refW)
  have H0 := hide h
  have hgl := h.gh.lt
  have hfj := frJ_le J
  have hP4 := h.gi.put4
  clear h
  rcases hP4 with ⟨hfr, hp⟩ | ⟨J1, i, hp, hI1, hG1, hb1, hin, hl1, hk1, hd1⟩
  · go_enter Tryz.func113, Tryz.ntmps113
    go_wp2_with fail
    refine (unhide C1).mono ?_
    rintro e w1 ⟨v1, rfl, hU1⟩
    have C2 := (unhide H0).putRefs hrl hU1
    have c1 := ((unhide H0).gh.quiet hU1.ho).tr.1
    obtain ⟨va, vc, rfl⟩ := ownsRow_shape hU1.own
    clear C1 hU1
    rw [hp] at C2
    have C2 := hide C2
    go_wp2_with fail
    refine (unhide C2).mono ?_
    rintro e w2 ⟨rfl, news, F', hWr⟩
    have hnil : news = [] := by
      have := hWr.pot
      rw [hfr] at this
      exact List.length_eq_zero_iff.1 (by omega)
    subst hnil
    have RR : Hid (ColP w w2 g t s d D B recs J rt F T S 0 5) := hide ⟨J, rt, [], F', T, S, hWr.went, ⟨hWr.ts, (unhide H0).gh.keep hWr.only (fun e => by
      rcases e with e | e | e
      · exact (unhide H0).ap.nt e
      · exact (unhide H0).ap.ns e
      · exact (unhide H0).ap.nF e), (hWr.went (g := g)).apart (unhide H0).ap hgl, (unhide H0).gi, (unhide H0).sv⟩, .inr ⟨rfl, rfl, hfr, rfl, rfl, rfl, rfl, rfl⟩⟩
    clear C2 hWr
    go_wp2_with fail
    go_ret2
    exact ⟨0, 5, rfl, unhide RR⟩
  · have HI1 := hide hI1
    have HG1 := hide hG1
    have Hb1 := hide hb1
    have Hl1 := hide hl1
    have Hk1 := hide hk1
    have Hd1 := hide hd1
    have hi48 := hin.2
    clear hI1 hG1 hb1 hl1 hk1 hd1
    go_enter Tryz.func113, Tryz.ntmps113
    go_wp2_with fail
    refine (unhide C1).mono ?_
    rintro e w1 ⟨v1, rfl, hU1⟩
    have C2 := (unhide H0).putRefs hrl hU1
    have c1 := ((unhide H0).gh.quiet hU1.ho).tr.1
    obtain ⟨va, vc, rfl⟩ := ownsRow_shape hU1.own
    clear C1 hU1
    rw [hp] at C2
    have C2 := hide C2
    clear hp
    go_wp2_with fail
    refine (unhide C2).mono ?_
    rintro e w2 ⟨rfl, news, F', hWr⟩
    have hG2 := (unhide H0).gh.keep hWr.only (fun e => by
      rcases e with e | e | e
      · exact (unhide H0).ap.nt e
      · exact (unhide H0).ap.ns e
      · exact (unhide H0).ap.nF e)
    have hlen : (recs ++ news).length ≤ 1000 := by
      have := hWr.pot
      rw [List.length_append]
      omega
    have Hlen := hide hlen
    have HW := hide hWr
    have HG2 := hide hG2
    have cnb := hG2.nb_.1
    have hnb := (unhide H0).gi.ref.b4
    clear C2 hWr hG2 hlen c1
    go_wp2_with fail
    go_loopw [7, 8] (fun xv kv wr => ∃ k : Nat, kv = .int .i64 k ∧ k ≤ T.nb ∧ xv = .int .u64 (rN T k : Nat) ∧ w2 = wr) (fun _ kv _ => T.nb - (intOf kv).toNat)
    case atStart => exact ⟨0, rfl, by omega, rfl, rfl⟩
    case round =>
      obtain ⟨k, rfl, hk, rfl, rfl⟩ := hrel
      by_cases hkl : k < T.nb
      · have b1 : decide ((k : Int) < (T.nb : Int)) = true := decide_eq_true (by omega)
        have b1n : decide (k < T.nb) = true := decide_eq_true hkl
        have b2 : (k : Int) < 4 := by omega
        have cb := ((unhide HG2).bri k (by omega)).1
        have hbC := ((unhide H0).gi.ref.bn k hkl).2
        have hid : (T.b k).id < 64 := by have := hbC.1.2; omega
        obtain ⟨b', hb'⟩ : ∃ b', (2 : Nat) ^ (T.b k).id = b' := ⟨_, rfl⟩
        have C3 := hide (gbit_any (T.b k).id hid b' hb'.symm w2)
        have hbl' : b' < 18446744073709551616 := by rw [← hb']; exact pow64 _ hid
        have e3 := bits_or_u64_nat (rN T k) b' (rN_lt (unhide H0).gi.ref k (by omega)) hbl'
        have hnx : rN T (k + 1) = rN T k ||| b' := by rw [← hb']; rfl
        have Hnx := hide hnx
        clear hb' hnx hbC
        generalize rN T k = u at *
        obtain ⟨v, hv⟩ : ∃ v, u ||| b' = v := ⟨_, rfl⟩
        rw [hv] at e3 Hnx
        clear hv
        generalize (T.b k).id = bi at *
        go_wp2_with fail
        refine (unhide C3).mono ?_
        rintro e w3 ⟨rfl, rfl⟩
        clear C3
        go_wp2_with fail
        go_roundw
        case rel => exact ⟨k + 1, by go_num, by omega, by rw [unhide Hnx], by first | trivial | rfl⟩
        case measure => simp [intOf]; omega
      · have b1 : decide ((k : Int) < (T.nb : Int)) = false := decide_eq_false (by omega)
        have b1n : decide (k < T.nb) = false := decide_eq_false hkl
        have e4 : k = T.nb := by omega
        subst e4
        have cnm := (unhide HG2).name_.1
        have cat := (unhide HG2).at__.1
        have hr1 := rN_lt (unhide H0).gi.ref T.nb (Nat.le_refl _)
        have hRA : ∀ (hs : T.name.size = 0), rA T = rN T T.nb ||| 2 ^ T.at_ := fun hs => by unfold rA; rw [if_pos hs]
        have hRN : ∀ (hs : T.name.size ≠ 0), rA T = rN T T.nb := fun hs => by unfold rA; rw [if_neg hs]
        have HRA := hide hRA
        have HRN := hide hRN
        clear hRA hRN
        generalize rN T T.nb = r1 at *
        go_upto_if 50 with fail
        go_cut [7] (fun v wx => v = .int .u64 (rA T : Nat) ∧ w2 = wx)
        case first =>
          by_cases hs : T.name.size = 0
          · have z1 : T.name.toList.isEmpty = true := by rw [ls_toList, List.isEmpty_iff]; exact List.length_eq_zero_iff.1 (by rw [← hs]; simp [ls])
            have hC := (unhide H0).gi.ref.h0 hs
            have hid : T.at_ < 64 := by have := hC.1.2; omega
            obtain ⟨b', hb'⟩ : ∃ b', (2 : Nat) ^ T.at_ = b' := ⟨_, rfl⟩
            have C3 := hide (gbit_any T.at_ hid b' hb'.symm w2)
            have hbl' : b' < 18446744073709551616 := by rw [← hb']; exact pow64 _ hid
            have e3 := bits_or_u64_nat r1 b' hr1 hbl'
            have hnx := unhide HRA hs
            rw [hb'] at hnx
            have Hnx := hide hnx
            clear hnx hb' hC HRA HRN hs
            obtain ⟨v, hv⟩ : ∃ v, r1 ||| b' = v := ⟨_, rfl⟩
            rw [hv] at e3 Hnx
            clear hv
            simp only [z1]
            go_wp2_with fail
            refine (unhide C3).mono ?_
            rintro e w3 ⟨rfl, rfl⟩
            clear C3
            go_upto_region 12 with fail
            go_meet
            case rel => exact ⟨by rw [unhide Hnx], rfl⟩
          · have z1 : T.name.toList.isEmpty = false := by
              rw [ls_toList]
              cases e : (ls T.name).isEmpty with
              | false => rfl
              | true => rw [List.isEmpty_iff] at e; exact absurd (by have := congrArg List.length e; simpa [ls] using this) hs
            have hnx := unhide HRN hs
            have Hnx := hide hnx
            clear hnx HRA HRN
            simp only [z1]
            go_upto_region 12 with fail
            go_meet
            case rel => exact ⟨by rw [unhide Hnx], rfl⟩
        case rest =>
        obtain ⟨rfl, rfl⟩ := hcut
        clear HRA HRN cat hr1
        have hr2 := rA_lt (unhide H0).gi.ref
        have cmg := (unhide HG2).mg_.1
        have hRA : ∀ (hs : T.mg ≠ 0), rootX T = rA T ||| 2 ^ T.mg := fun hs => by unfold rootX; rw [if_pos hs]
        have hRN : ∀ (hs : ¬ T.mg ≠ 0), rootX T = rA T := fun hs => by unfold rootX; rw [if_neg hs]
        have HRA := hide hRA
        have HRN := hide hRN
        clear hRA hRN
        generalize rA T = r2 at *
        go_upto_if 62 with fail
        go_cut [7] (fun v wx => v = .int .u64 (rootX T : Nat) ∧ w2 = wx)
        case first =>
          by_cases hs : T.mg ≠ 0
          · have z1 : ((T.mg : Int) == 0) = false := ne_intO (by omega)
            have hC := (unhide H0).gi.ref.mg.resolve_left hs
            have hid : T.mg < 64 := by have := hC.1.2; omega
            obtain ⟨b', hb'⟩ : ∃ b', (2 : Nat) ^ T.mg = b' := ⟨_, rfl⟩
            have C3 := hide (gbit_any T.mg hid b' hb'.symm w2)
            have hbl' : b' < 18446744073709551616 := by rw [← hb']; exact pow64 _ hid
            have e3 := bits_or_u64_nat r2 b' hr2 hbl'
            have hnx := unhide HRA hs
            rw [hb'] at hnx
            have Hnx := hide hnx
            clear hnx hb' hC HRA HRN hs
            obtain ⟨v, hv⟩ : ∃ v, r2 ||| b' = v := ⟨_, rfl⟩
            rw [hv] at e3 Hnx
            clear hv
            go_wp2_with fail
            refine (unhide C3).mono ?_
            rintro e w3 ⟨rfl, rfl⟩
            clear C3
            go_upto_region 14 with fail
            go_meet
            case rel => exact ⟨by rw [unhide Hnx], rfl⟩
          · have z1 : T.mg = 0 := by omega
            have hnx := unhide HRN hs
            have Hnx := hide hnx
            rw [z1] at cmg
            clear hnx HRA HRN hs
            go_upto_region 14 with fail
            go_meet
            case rel => exact ⟨by rw [unhide Hnx], rfl⟩
        case rest =>
        obtain ⟨rfl, rfl⟩ := hcut
        clear HRA HRN hr2 cmg cnm cnb
        have hrx := rootX_lt (unhide H0).gi.ref
        have C4 := gup_any (unhide HG2) (unhide H0).gi (rootX T) hrx
        have hxl := (unhide H0).gi.upN_lt T.n (rootX T) (Nat.le_refl _) hrx
        have hkC := up_isC (unhide H0).gi.tab (unhide H0).gi.ord T.n (rootX T) (Nat.le_refl _) (fun j hj => (unhide H0).gi.ref.rootC hj)
        have hcorr := (unhide H0).gi.keptCorr
        have hcol := fun m hm => (unhide H0).gi.colI (i := i) (m := m) (unhide HI1) (unhide HG1) (unhide Hb1) hin (unhide Hl1) (unhide Hk1) (unhide Hd1) hm
        obtain ⟨x, hx⟩ : ∃ x, upN T T.n (rootX T) = x := ⟨_, rfl⟩
        rw [hx] at C4 hxl hkC hcorr
        have hcol' : ∀ m, (∀ j, m.testBit j = true ↔ MrkP J1 T x i j) → ColI J1 T x i m ∧ absG J1 T = absG J T := by rw [← hx]; exact hcol
        have HkC := hide hkC
        have Hcorr := hide hcorr
        have Hcol := hide hcol'
        clear hkC hcorr hcol hcol' hx
        have C4 := hide C4
        have hid : i < 64 := by omega
        obtain ⟨bi, hbi⟩ : ∃ b', (2 : Nat) ^ i = b' := ⟨_, rfl⟩
        have C5 := hide (gbit_any i hid bi hbi.symm w2)
        have hbil : bi < 18446744073709551616 := by rw [← hbi]; exact pow64 _ hid
        have e5 := bits_or_u64_nat x bi hxl hbil
        have hst := MrkK.start J1 T x i
        rw [hbi] at hst
        have hm0 := or_lt64 hxl hbil
        obtain ⟨m0, hm0e⟩ : ∃ v, x ||| bi = v := ⟨_, rfl⟩
        rw [hm0e] at hst e5 hm0
        have Hst := hide hst
        have cn := (unhide HG2).n_.1
        have hn := (unhide H0).gi.ord.n40
        clear hst hm0e hbi hrx
        generalize rootX T = rx at *
        go_wp2_with fail
        refine (unhide C4).mono ?_
        rintro e w3 ⟨rfl, rfl⟩
        clear C4
        go_wp2_with fail
        refine (unhide C5).mono ?_
        rintro e w3 ⟨rfl, rfl⟩
        clear C5
        go_wp2_with fail
        go_loopw [10, 11] (fun mv kv wr => ∃ k y : Nat, kv = .int .i64 k ∧ k ≤ T.n ∧ mv = .int .u64 (y : Nat) ∧ y < 18446744073709551616 ∧ MrkK J1 T x i k y ∧ Only (fun _ => False) w2 wr) (fun _ kv _ => T.n - (intOf kv).toNat)
        case atStart => exact ⟨0, m0, rfl, by omega, rfl, hm0, unhide Hst, Only.refl _ _⟩
        case round =>
          clear Hst cn
          obtain ⟨k, y, rfl, hk, rfl, hy, hM, hO⟩ := hrel
          have hGr := (unhide HG2).quiet hO
          have cn := hGr.n_.1
          by_cases hkl : k < T.n
          · have a1 : decide ((k : Int) < (T.n : Int)) = true := decide_eq_true (by omega)
            have a1n : decide (k < T.n) = true := decide_eq_true hkl
            have a2 : (k : Int) < 48 := by omega
            have hC := (unhide H0).gi.ord.oin k hkl
            have hcl : T.o k < 49 := by have := hC.1.2; omega
            have zo := (hGr.ord k (by omega)).1
            have zt : wr.cell? ⟨g, 1 + T.o k * 6 + 2, none⟩ = some (.int .i64 ((T.c (T.o k)).tree : Int)) := (hGr.com (T.o k) 2 hcl (by omega)).1
            obtain ⟨b, hb⟩ : ∃ b, (2 : Nat) ^ T.o k = b := ⟨_, rfl⟩
            have C7 := hide (gbit_any (T.o k) (by omega) b hb.symm wr)
            have hbl : b < 18446744073709551616 := by rw [← hb]; exact pow64 _ (by omega)
            obtain ⟨z, hz⟩ : ∃ z, x &&& b = z := ⟨_, rfl⟩
            have e3 := bits_and_u64_nat x b hxl hbl
            rw [hz] at e3
            have hap := and_pow x (T.o k)
            rw [hb, hz] at hap
            have a3 : (T.o k : Int) < 49 := by omega
            have HM := hide hM
            have HO := hide hO
            clear hz hb hC hM
            cases hmk : x.testBit (T.o k) with
            | true =>
              rw [hmk] at hap
              have hz0' : ((z : Int) == 0) = false := by
                have : ((z : Int) != 0) = true := hap
                simpa using this
              have hT1 : IsT J1 (T.c (T.o k)).tree := by
                have hC := (unhide H0).gi.ord.oin k hkl
                have ht := (unhide H0).gi.tab.ct _ hC
                have eq := unhide HG1 _ ht.1 (liveS_ne ht.2.1)
                exact ⟨ht.1, by rw [eq]; exact ht.2.1, by rw [eq]; exact ht.2.2⟩
              have C8 := hide (gmem_any ((unhide HW).ts.quiet hO) hGr y hy (T.c (T.o k)).tree hT1)
              have Hmk := hide hmk
              clear hmk hGr hO hT1
              generalize hq : (T.c (T.o k)).tree = tr at *
              have Hq := hide hq
              clear hq
              generalize hoi : T.o k = oi at *
              have Hoi := hide hoi
              clear hoi
              go_wp2_with fail
              refine (unhide C7).mono ?_
              rintro e w3 ⟨rfl, rfl⟩
              clear C7
              go_wp2_with fail
              refine (unhide C8).mono ?_
              rintro e w4 ⟨y', rfl, hy', hS, hO4⟩
              have HR := hide (And.intro ((unhide HM).yes (z := y') (by rw [unhide Hoi]; exact unhide Hmk) (by rw [unhide Hoi, unhide Hq]; exact hS)) ((unhide HO).trans hO4 (fun _ _ h => h)))
              clear C8 hS hO4 cn zo zt
              go_wp2_with fail
              go_roundw
              case rel => exact ⟨k + 1, y', by go_num, by omega, rfl, hy', (unhide HR).1, (unhide HR).2⟩
              case measure => simp [intOf]; omega
            | false =>
              rw [hmk] at hap
              have hz0 : z = 0 := by
                have : ((z : Int) != 0) = false := hap
                simp at this
                omega
              subst hz0
              have e3' : bits BinOp.and IntKind.u64 (x : Int) (b : Int) = 0 := e3
              have HR := hide ((unhide HM).no hmk)
              clear e3 hap hmk hGr hO zt
              generalize T.o k = oi at *
              go_wp2_with fail
              refine (unhide C7).mono ?_
              rintro e w3 ⟨rfl, rfl⟩
              clear C7
              go_wp2_with fail
              go_roundw
              case rel => exact ⟨k + 1, y, by go_num, by omega, rfl, hy, unhide HR, unhide HO⟩
              case measure => simp [intOf]; omega
          · have a1 : decide ((k : Int) < (T.n : Int)) = false := decide_eq_false (by omega)
            have a1n : decide (k < T.n) = false := decide_eq_false hkl
            have e4 : k = T.n := by omega
            subst e4
            have hTa : IsT J1 T.aux := by
              have ht := (unhide H0).gi.ax
              have eq := unhide HG1 _ ht.1 (liveS_ne ht.2.1)
              exact ⟨ht.1, by rw [eq]; exact ht.2.1, by rw [eq]; exact ht.2.2⟩
            have C8 := hide (gmem_any ((unhide HW).ts.quiet hO) hGr y hy T.aux hTa)
            have cax := hGr.aux_.1
            have HM := hide hM
            have HO := hide hO
            clear hGr hTa hM hO
            go_wp2_with fail
            refine (unhide C8).mono ?_
            rintro e w4 ⟨m, rfl, hm, hS, hO4⟩
            have hO4' := (unhide HO).trans hO4 (fun _ _ h => h)
            have hcol := unhide Hcol m ((unhide HM).fin (unhide H0).gi.ord (unhide HkC) hS)
            have hap1 := ((unhide HW).went (g := g)).apart (unhide H0).ap hgl
            have C9 := hide (gsweep_any ((unhide HW).ts.quiet hO4') ((unhide HG2).quiet hO4') hap1.nt hap1.ns hm hcol.1.clos)
            have HO4 := hide hO4'
            have HCo := hide hcol
            have Hap := hide hap1
            clear C8 hS hO4 hO4' hcol hap1 cn cax HM HO
            go_wp2_with fail
            refine (unhide C9).mono ?_
            rintro e w5 ⟨rfl, J2, hSw, hpot⟩
            have hO25 : Only (fun y => y = t ∨ y = s ∨ F' y) w2 w5 := ((unhide HO4).mono (T := fun y => y = t ∨ y = s ∨ F' y) (fun _ _ h => h.elim)).trans hSw.ho (fun y _ e => by
              rcases e with e | e
              · exact .inl e
              · exact .inr (.inl e))
            have hG5 := (unhide HG2).keep hO25 (fun e => by
              rcases e with e | e | e
              · exact (unhide Hap).nt e
              · exact (unhide Hap).ns e
              · exact (unhide Hap).nF e)
            have c5 := hG5.tr.1
            have hmi : m.testBit i = true := ((unhide HCo).1.mrk i).2 (.inr (.inl rfl))
            have hli2 : liveS (J2 i) = true := by rw [hSw.sw.stay i hin hmi]; exact unhide Hl1
            have C10 := hide (tcommit_in hSw.ts i (.inr ⟨hin, hli2⟩) (unhide Hlen))
            have HSw := hide hSw
            have HO25 := hide hO25
            have HG5 := hide hG5
            have Hpot := hide hpot
            clear C9 hSw hO25 hG5 hpot hmi hli2
            go_wp2_with fail
            refine (unhide C10).mono ?_
            rintro e w6 ⟨rfl, sup, hT6, hO6⟩
            have hs6 := hO6.size
            have hs5 := (unhide HO25).size
            have hO6' : Only (fun y => y = t ∨ y = s ∨ F' y) w5 w6 := hO6.mono (fun y _ e => .inr e)
            have hWent := (unhide HW).commit (g := g) hT6 (fun y hy => by
              rcases hy with hy | hy
              · exact .inl hy
              · exact .inr (by have := hy.1; omega)) ((unhide HO25).trans hO6' (fun _ _ h => h))
            have hap := hWent.apart (unhide H0).ap hgl
            have hG6 := (unhide HG5).keep hO6' (fun e => by
              rcases e with e | e | e
              · exact (unhide Hap).nt e
              · exact (unhide Hap).ns e
              · exact (unhide Hap).nF e)
            have C11 := hide (gforget_any hG6 (unhide H0).gi.ord x hxl)
            have HWe := hide hWent
            have Hap6 := hide hap
            clear C10 hT6 hO6 hO6' hWent hap hG6 c5
            go_wp2_with fail
            refine (unhide C11).mono ?_
            rintro e w7 ⟨rfl, hG7, hO7⟩
            have c7 := hG7.tr.1
            have hT7 := (unhide HWe).ts.keep hO7 (fun e => (unhide Hap6).nt e.symm) (fun e => (unhide Hap6).ns e.symm) (fun k hk e => (unhide Hap6).nF (by rw [← e]; exact hk))
            have C12 := hide (tfree_any hT7)
            have hW7 := (unhide HWe).andThen hT7 (hO7.mono (fun y _ e => .inl e))
            have hgi := (unhide HCo).1.gi (unhide HSw).sw (unhide Hpot) (unhide HSw).ts.inv
            have hab := (unhide HCo).1.abs (unhide HSw).sw (by rw [(unhide HCo).2]; exact unhide Hcorr)
            have hsv := (unhide HCo).1.sav (unhide HSw).sw (unhide Hpot) (unhide HSw).ts.inv (by rw [(unhide HCo).2]; exact unhide Hcorr)
            rw [(unhide HCo).2] at hab hsv
            have hfr : frJ (comJ J2) ≤ 48 := cntTo_le0 (by simp [isFreeS]) 48
            have RR : Hid (ColP w w7 g t s d D B recs J rt F T S (48 - frJ (comJ J2)) 0) := hide ⟨comJ J2, i, _, _, fgT T x, _, hW7, ⟨hW7.ts, hG7, unhide Hap6, hgi, hsv⟩, .inl ⟨rfl, rfl, hab, (unhide HCo).1.tight (unhide HSw).sw (unhide Hpot) (unhide HSw).ts.inv, by simp, by omega, abort_com J2⟩⟩
            have Hfr := hide hfr
            clear C11 hG7 hO7 hT7 hW7 hgi hab hsv
            generalize frJ (comJ J2) = fr at *
            go_wp2_with fail
            refine (unhide C12).mono ?_
            rintro e w8 ⟨rfl, rfl⟩
            clear C12
            go_wp2_with fail
            go_ret2
            exact ⟨48 - fr, 0, by go_num, unhide RR⟩
end
end Go.Proofs.Qxb6500417aGreat
