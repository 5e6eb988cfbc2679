/-
  OWN WORK. THE GRAPH: sweep.
-/
import Derived.Test.Qxb6500417aGreatGMem
import Derived.Test.Qxb6500417aGreatTJ6
namespace Go.Proofs.Qxb6500417aGreat
open Go.RowKit Go.PlainAid
set_option linter.unusedSimpArgs false
set_option linter.unusedVariables false

theorem cntTo_le0 {p : Nat → Bool} (h0 : p 0 = false) : ∀ n, cntTo p (n + 1) ≤ n
  | 0 => by unfold cntTo; rw [h0]; simp [cntTo]
  | n + 1 => by
    have ih := cntTo_le0 h0 n
    unfold cntTo
    split <;> omega
theorem cntTo_zero {p : Nat → Bool} {i : Nat} (hp : p i = true) : ∀ n, i < n → cntTo p n ≠ 0
  | 0, h => by omega
  | n + 1, h => by
    unfold cntTo
    by_cases e : i = n
    · subst e; rw [hp]; simp
    · have := cntTo_zero hp n (by omega)
      omega
/-- The live objects that are not marked. -/
def unmk (J : Nat → Sl) (m i : Nat) : Bool := decide (i ≠ 0) && liveS (J i) && !m.testBit i
def pot (J : Nat → Sl) (m : Nat) : Nat := cntTo (unmk J m) 49
theorem pot_le (J : Nat → Sl) (m : Nat) : pot J m ≤ 48 := cntTo_le0 (by simp [unmk]) 48
theorem unmk_iff {J : Nat → Sl} {m i : Nat} (hi : In i) : unmk J m i = true ↔ liveS (J i) = true ∧ m.testBit i = false := by
  have := hi.1
  unfold unmk
  simp
  omega
theorem pot_zero {J : Nat → Sl} {m : Nat} (h : pot J m = 0) {i : Nat} (hi : In i) (hl : liveS (J i) = true) : m.testBit i = true := by
  cases e : m.testBit i with
  | true => rfl
  | false => exact absurd h (cntTo_zero ((unmk_iff hi).2 ⟨hl, e⟩) 49 (by have := hi.2; omega))
theorem pot_drop {J : Nat → Sl} {m i : Nat} (hi : In i) (hl : liveS (J i) = true) (hm : m.testBit i = false) : pot J m = pot (dropJ J i) m + 1 := by
  refine cntTo_turn (j := i) ((unmk_iff hi).2 ⟨hl, hm⟩) ?_ (fun k hk => ?_) 49 (by have := hi.2; omega)
  · unfold unmk dropJ
    rw [updJ_self, drop_dead]
    simp
  · unfold unmk dropJ
    rw [updT_other _ _ _ _ hk]
/-- What is marked is closed. -/
def ClosM (J : Nat → Sl) (m : Nat) : Prop := ∀ i, In i → liveS (J i) = true → m.testBit i = true → ∀ r ∈ (J i).rws, m.testBit r.id = true
theorem no_last {J : Nat → Sl} {m : Nat} (hI : Inv J) (hc : ClosM J m) (hb : ∀ i, In i → liveS (J i) = true → m.testBit i = false → busy J i) : pot J m = 0 := by
  have up : ∀ i, In i → liveS (J i) = true → m.testBit i = false → ∃ t r, IsT J t ∧ m.testBit t = false ∧ r ∈ (J t).rws ∧ r.id = i := fun i hi hl hm => by
    obtain ⟨t, ht, hlt, r, hr, e⟩ := hb i hi hl hm
    have hk : (J t).kd = 2 := by
      by_cases h : (J t).kd = 2
      · exact h
      · rw [(hI.nt t ht (liveS_ne hlt) h).2] at hr; simp at hr
    refine ⟨t, r, ⟨ht, hlt, hk⟩, ?_, hr, e⟩
    cases hq : m.testBit t with
    | false => rfl
    | true => have := hc t ht hlt hq r hr; rw [e, hm] at this; cases this
  have st : ∀ n i, IsT J i → m.testBit i = false → ¬ Deep n (J i).lst → ∃ t, IsT J t ∧ m.testBit t = false ∧ ¬ Deep (n + 1) (J t).lst := fun n i hi hm hd => by
    obtain ⟨t, r, ht, hmt, hr, e⟩ := up i hi.1 hi.2.1 hm
    refine ⟨t, ht, hmt, fun hdt => hd ?_⟩
    have hT := hI.tr t ht.1 (liveS_ne ht.2.1) ht.2.2
    obtain ⟨k, hk, hrk⟩ := List.getElem_of_mem hr
    have hlen := hT.rel.len
    have hrel := hT.rel.get k (by omega) hk
    cases hq : (tp (J t).lst)[k]'(by omega) with
    | f e' =>
      rw [hq, hrk] at hrel
      obtain ⟨_, _, _, _, h5⟩ := hrel
      rw [e, hi.2.2] at h5
      omega
    | d a sub =>
      have hmem : Tp.d a sub ∈ tp (J t).lst := hq ▸ List.getElem_mem _
      rw [hq, hrk] at hrel
      obtain ⟨_, _, _, _, h5⟩ := hrel
      rw [e] at h5
      rw [h5]
      exact Deep.sub hdt hmem
  have top : ∀ n i, IsT J i → m.testBit i = false → ¬ Deep (6 - n) (J i).lst → n ≤ 6 → False := by
    intro n
    induction n with
    | zero => intro i hi hm hd _; exact hd (hI.tr i hi.1 (liveS_ne hi.2.1) hi.2.2).fine.deep
    | succ n ih =>
      intro i hi hm hd hn
      obtain ⟨t, ht, hmt, hdt⟩ := st _ i hi hm hd
      have e : 6 - (n + 1) + 1 = 6 - n := by omega
      rw [e] at hdt
      exact ih t ht hmt hdt (by omega)
  have none : ∀ i, In i → liveS (J i) = true → m.testBit i = true := fun i hi hl => by
    cases hm : m.testBit i with
    | true => rfl
    | false =>
      exfalso
      obtain ⟨t, r, ht, hmt, hr, _⟩ := up i hi hl hm
      have hT := hI.tr t ht.1 (liveS_ne ht.2.1) ht.2.2
      refine top 6 t ht hmt (fun hd => ?_) (Nat.le_refl _)
      have h0 := deep_nil hd
      have hlen := hT.rel.len
      rw [h0] at hlen
      have e0 : tp ([] : List En) = [] := by decide
      rw [e0] at hlen
      have : (J t).rws = [] := List.length_eq_zero_iff.1 hlen.symm
      rw [this] at hr
      simp at hr
  unfold pot
  have : cntTo (unmk J m) 49 ≤ cntTo (fun _ => false) 49 := cntTo_mono 49 (fun i hi hp => by
    by_cases h0 : i = 0
    · subst h0; simp [unmk] at hp
    · have hin : In i := ⟨by omega, by omega⟩
      obtain ⟨a, b⟩ := (unmk_iff hin).1 hp
      rw [none i hin a] at b; cases b)
  have e : cntTo (fun _ => false) 49 = 0 := by decide
  omega
/-- From J to J1 only what is not marked has gone. -/
structure Swp (J J1 : Nat → Sl) (m : Nat) : Prop where
  stay : ∀ i, In i → m.testBit i = true → J1 i = J i
  back : ∀ i, In i → liveS (J1 i) = true → J1 i = J i
  ab : abortJ J1 = abortJ J
theorem Swp.refl (J : Nat → Sl) (m : Nat) : Swp J J m := ⟨fun _ _ _ => rfl, fun _ _ _ => rfl, rfl⟩
theorem Swp.clos {J J1 : Nat → Sl} {m : Nat} (h : Swp J J1 m) (hc : ClosM J m) : ClosM J1 m := fun i hi hl hm r hr => by
  have e := h.back i hi hl
  rw [e] at hl hr
  exact hc i hi hl hm r hr
theorem Swp.drop {J J1 : Nat → Sl} {m i : Nat} (h : Swp J J1 m) (hl : liveS (J1 i) = true) (hm : m.testBit i = false) : Swp J (dropJ J1 i) m := by
  refine ⟨fun j hj hmj => ?_, fun j hj hlj => ?_, (abortJ_drop hl).trans h.ab⟩
  · have hne : j ≠ i := fun e => by rw [e, hm] at hmj; cases hmj
    unfold dropJ
    rw [updT_other _ _ _ _ hne]
    exact h.stay j hj hmj
  · by_cases e : j = i
    · unfold dropJ at hlj
      rw [e, updJ_self, drop_dead] at hlj; cases hlj
    · unfold dropJ at hlj ⊢
      rw [updT_other _ _ _ _ e] at hlj ⊢
      exact h.back j hj hlj
/-- A round of sweep, under way. -/
structure SwR (w wr : World) (t s d : Nat) (D B : Nat → Nat) (recs : List Rec) (J J1 : Nat → Sl) (rt : Nat) (F : Nat → Prop) (m : Nat) : Prop where
  ts : TS wr t s d D B recs J1 rt F
  sw : Swp J J1 m
  ho : Only (fun y => y = t ∨ y = s) w wr
section
variable {w wr : World} {g t s d rt : Nat} {D B : Nat → Nat} {recs : List Rec} {J J1 : Nat → Sl} {F : Nat → Prop} {T : Gt} {m : Nat}
/-- One Drop of sweep. -/
def SwD (w w' : World) (t s d : Nat) (D B : Nat → Nat) (recs : List Rec) (J J1 : Nat → Sl) (rt : Nat) (F : Nat → Prop) (m i x : Nat) : Prop :=
  (x = 0 ∧ ∃ J2, SwR w w' t s d D B recs J J2 rt F m ∧ pot J1 m = pot J2 m + 1) ∨ (x ≠ 0 ∧ SwR w w' t s d D B recs J J1 rt F m ∧ (liveS (J1 i) = true → busy J1 i))
theorem sdrop_any (h : SwR w wr t s d D B recs J J1 rt F m) (i : Nat) (hi : In i) (hm : m.testBit i = false) :
    Calls Tryz.prog 151 #[.pointer (some ⟨t, 0, none⟩), .int .i64 i] wr fun e w' => ∃ x : Nat, e = .returned (.int .i64 (x : Int)) ∧ SwD w w' t s d D B recs J J1 rt F m i x := by
  by_cases hl : liveS (J1 i) = true
  · by_cases hb : busy J1 i
    · refine (tdrop_busy h.ts i hi hl hb).mono ?_
      rintro e w1 ⟨rfl, rfl⟩
      exact ⟨7, rfl, .inr ⟨by omega, h, fun _ => hb⟩⟩
    · refine (tdrop_in h.ts i hi hl hb).mono ?_
      rintro e w1 ⟨rfl, hT, ho⟩
      exact ⟨0, rfl, .inl ⟨rfl, _, ⟨hT, h.sw.drop hl hm, h.ho.trans ho (fun _ _ h => h)⟩, pot_drop hi hl hm⟩⟩
  · refine (tdrop_no h.ts i (by rw [liveJ_nat hi]; simpa using hl)).mono ?_
    rintro e w1 ⟨rfl, rfl⟩
    exact ⟨6, rfl, .inr ⟨by omega, h, fun hh => absurd hh hl⟩⟩
set_option maxRecDepth 100000 in
set_option maxHeartbeats 4000000 in
theorem gsweep_any (h : TS w t s d D B recs J rt F) (hg : GH w g t T) (hnt : g ≠ t) (hns : g ≠ s) (hm : m < 18446744073709551616) (hc : ClosM J m) :
    Calls Tryz.prog 158 #[.pointer (some ⟨g, 0, none⟩), .int .u64 m] w fun e w' => e = .returned (.tuple #[]) ∧ ∃ J1, SwR w w' t s d D B recs J J1 rt F m ∧ pot J1 m = 0 := by
  have h0 : SwR w w t s d D B recs J J rt F m := ⟨h, Swp.refl J m, Only.refl _ _⟩
  have H0 := hide h0
  have HG := hide (fun (wr : World) (ho : Only (fun y => y = t ∨ y = s) w wr) => hg.keep ho (fun e => e.elim hnt hns))
  have Hc := hide hc
  have hp0 := pot_le J m
  clear h h0 hg hc hnt hns
  go_enter Tryz.func158, Tryz.ntmps158
  go_wp2_with fail
  go_loopw [4] (fun iv wr => ∃ r : Nat, iv = .int .i64 r ∧ r ≤ 48 ∧ ∃ J1, SwR w wr t s d D B recs J J1 rt F m ∧ pot J1 m + r ≤ 48) (fun iv _ => 48 - (intOf iv).toNat)
  case atStart => exact ⟨0, rfl, by omega, J, unhide H0, by omega⟩
  case round =>
    clear H0
    obtain ⟨r, rfl, hr, J1, h1, hp1⟩ := hrel
    by_cases hr48 : r < 48
    · have a1 : decide ((r : Int) < 48) = true := decide_eq_true (by omega)
      have H1 := hide h1
      clear h1
      go_wp2_with fail
      go_loopw [5, 6] (fun dv kv wr => ∃ n k : Nat, dv = .int .i64 n ∧ kv = .int .i64 k ∧ 1 ≤ k ∧ k ≤ 49 ∧ ∃ J2, SwR w wr t s d D B recs J J2 rt F m ∧ pot J2 m + n = pot J1 m ∧ (n = 0 → ∀ i, In i → i < k → liveS (J2 i) = true → m.testBit i = false → busy J2 i)) (fun _ kv _ => 49 - (intOf kv).toNat)
      case atStart => exact ⟨0, 1, rfl, rfl, by omega, by omega, J1, unhide H1, rfl, fun _ i hi h => by have := hi.1; omega⟩
      case round =>
        clear H1
        obtain ⟨n, k, rfl, rfl, hk1, hk, J2, h2, hp2, hbz⟩ := hrel
        by_cases hk49 : k ≤ 48
        · have a2 : decide ((k : Int) ≤ 48) = true := decide_eq_true (by omega)
          have hin : In k := ⟨by omega, hk49⟩
          obtain ⟨b, hb⟩ : ∃ b, (2 : Nat) ^ k = b := ⟨_, rfl⟩
          have C7 := hide (gbit_any k (by omega) b hb.symm wr)
          have hbl : b < 18446744073709551616 := by rw [← hb]; exact pow64 _ (by omega)
          obtain ⟨z, hz⟩ : ∃ z, m &&& b = z := ⟨_, rfl⟩
          have e3 := bits_and_u64_nat m b hm hbl
          rw [hz] at e3
          have hap := and_pow m k
          rw [hb, hz] at hap
          have H2 := hide h2
          have ct := (unhide HG wr h2.ho).tr.1
          have Hbz := hide hbz
          clear hz hb hbz
          cases hmk : m.testBit k with
          | true =>
            rw [hmk] at hap
            have hz0' : ((z : Int) == 0) = false := by
              have : ((z : Int) != 0) = true := hap
              simpa using this
            have Hmk := hide hmk
            clear hmk h2
            go_wp2_with fail
            refine (unhide C7).mono ?_
            rintro e w3 ⟨rfl, rfl⟩
            clear C7
            go_wp2_with fail
            go_roundw
            case rel => exact ⟨n, k + 1, rfl, by go_num, by omega, by omega, J2, unhide H2, hp2, fun h0 i hi hik hl hmi => by
              have : i ≠ k := fun e => by rw [e, unhide Hmk] at hmi; cases hmi
              exact unhide Hbz h0 i hi (by omega) hl hmi⟩
            case measure => simp [intOf]; omega
          | false =>
            rw [hmk] at hap
            have hz0 : z = 0 := by
              have : ((z : Int) != 0) = false := hap
              simp at this
              omega
            subst hz0
            have e3' : bits BinOp.and IntKind.u64 (m : Int) (b : Int) = 0 := e3
            have C8 := hide (sdrop_any h2 k hin hmk)
            have Hmk := hide hmk
            clear e3 hap h2 hmk
            go_wp2_with fail
            refine (unhide C7).mono ?_
            rintro e w3 ⟨rfl, rfl⟩
            clear C7
            go_wp2_with fail
            refine (unhide C8).mono ?_
            rintro e w4 ⟨x, rfl, hD⟩
            clear C8
            rcases hD with ⟨rfl, J3, h3, hp3⟩ | ⟨hx, h3, hb3⟩
            · have H3 := hide h3
              have hpl := pot_le J1 m
              have n48 : n < 48 := by omega
              clear h3
              go_wp2_with fail
              go_roundw
              case rel => exact ⟨n + 1, k + 1, by go_num, by go_num, by omega, by omega, J3, unhide H3, by omega, fun h0 => by omega⟩
              case measure => simp [intOf]; omega
            · have H3 := hide h3
              have Hb3 := hide hb3
              have x0 : ((x : Int) == 0) = false := ne_intO (by omega)
              clear h3 hb3
              go_wp2_with fail
              go_roundw
              case rel => exact ⟨n, k + 1, rfl, by go_num, by omega, by omega, J2, unhide H3, hp2, fun h0 i hi hik hl hmi => by
                by_cases e : i = k
                · subst e; exact unhide Hb3 hl
                · exact unhide Hbz h0 i hi (by omega) hl hmi⟩
              case measure => simp [intOf]; omega
        · have a2 : decide ((k : Int) ≤ 48) = false := decide_eq_false (by omega)
          by_cases h0 : n = 0
          · subst h0
            have hz := no_last h2.ts.inv (h2.sw.clos (unhide Hc)) (fun i hi hl hmi => hbz rfl i hi (by have := hi.2; omega) hl hmi)
            have R := hide (And.intro h2 hz)
            clear h2 hz hbz
            go_wp2_with fail
            (try simp only [Exit.inBlock, Exit.then])
            refine bodyPost_ret (results_none rfl _ _ _) rfl ?_
            exact ⟨rfl, J2, unhide R⟩
          · have n0 : ((n : Int) == 0) = false := ne_intO (by omega)
            have H2 := hide h2
            clear h2 hbz
            go_wp2_with fail
            go_roundw
            case rel => exact ⟨r + 1, by go_num, by omega, J2, unhide H2, by omega⟩
            case measure => simp [intOf]; omega
    · have a1 : decide ((r : Int) < 48) = false := decide_eq_false (by omega)
      have R := hide (And.intro h1 (by omega : pot J1 m = 0))
      clear h1
      go_wp2_with fail
      go_end0
      exact ⟨rfl, J1, unhide R⟩
end
end Go.Proofs.Qxb6500417aGreat
