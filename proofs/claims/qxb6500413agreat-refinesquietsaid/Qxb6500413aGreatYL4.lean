/-
  OWN WORK. THE TABLE LAW: AlikeTable, Alike.
-/
import Derived.Test.Qxb6500413aGreatYL3
import Derived.Test.Qxb6500413aGreatYP1
namespace Go.Proofs.Qxb6500413aGreat
open Go.RowKit Go.PlainAid
set_option linter.unusedSimpArgs false
set_option linter.unusedVariables false

def vZ : Vl := ⟨false, 0, ⟨#[]⟩⟩
theorem vZ_wf : vZ.wf := .inl ⟨rfl, rfl, by unfold In64 vZ; simp⟩
section
variable {q : Gnd} {w : World} {x z : Nat} {op opz : Bool} {S : Vu} {T : List (Tb × Hd)} {D Tz U : Db} {hist : Option Db} {Hz : Nat → Prop}
/-- What AlikeTable answers. -/
def AtB (A B : Db) (nm : ByteArray) (b : Bool) : Prop := (b = true → Als A B nm) ∧ (A = B → b = true)
/-- Rows whose key can be looked up. -/
theorem scn_key (d : DOk D) (nm : ByteArray) : ∀ r ∈ (scnD D nm (schD D nm).pk none none).1, ∃ p : Nat, (schD D nm).pk = p ∧ ∃ v, r[p]? = some v ∧ v.wf := by
  intro r hr
  obtain ⟨t, hf, hm⟩ := scn_mem nm _ none none r hr
  have ok := d.tb t (List.mem_of_find?_eq_some hf)
  refine ⟨t.pk, by unfold schD; rw [hf], ?_⟩
  obtain ⟨v, hv⟩ := getE (l := r) (i := t.pk) (by rw [(ok.row r hm).len]; exact ok.pkn)
  exact ⟨v, hv, ((ok.row r hm).2 v (List.mem_of_getElem? hv)).1⟩
set_option maxRecDepth 100000 in
set_option maxHeartbeats 8000000 in
theorem alikeTable_any (H : ST q w x op S) (L : Lay S T) (Y : YAt w z D Tz U hist opz Hz) (sep : ∀ k, Hz k → ¬ q.S k) (nm : ByteArray) : Calls Tryz.prog 133 #[.pointer (some ⟨x, 0, none⟩), .pointer (some ⟨z, 0, none⟩), .string nm] w fun e w' => ∃ b, e = .returned (.bool b) ∧ AtB (dbOf T) D nm b ∧ ST q w' x op S ∧ Only q.S w w' := by
  have C1 := hide (sameSchemaOf_any H L Y sep nm _ rfl)
  have HH := hide (And.intro H (And.intro L (And.intro Y sep)))
  clear H L Y sep
  obtain ⟨b1, hb1⟩ : ∃ b, decide (schD (dbOf T) nm = schD D nm) = b := ⟨_, rfl⟩
  rw [hb1] at C1
  go_enter Tryz.func133, Tryz.ntmps133
  go_wp2_with fail
  refine (unhide C1).mono ?_
  rintro e w1 ⟨rfl, st1, o1⟩
  cases b1 with
  | false =>
    have HP := hide (show ∃ b, (Ending.returned (.bool false)) = .returned (.bool b) ∧ AtB (dbOf T) D nm b ∧ ST q w1 x op S ∧ Only q.S w w1 from ⟨false, rfl, ⟨(fun e => by cases e), fun e => absurd (by rw [e]) (of_decide_eq_false hb1)⟩, st1, o1⟩)
    clear st1 o1 C1 hb1
    go_wp2_with fail
    go_ret
    exact unhide HP
  | true =>
  have HS := hide (of_decide_eq_true hb1)
  have HS1 := hide (And.intro st1 o1)
  clear st1 o1 C1 hb1
  go_upto_region 4 with fail
  go_loopw [7] (fun cv wr => ∃ i : Nat, cv = .int .i64 ((i : Int) - 1) ∧ i ≤ 5 ∧ (∀ j : Nat, j < i → scnD (dbOf T) nm ((j : Int) - 1) none none = scnD D nm ((j : Int) - 1) none none) ∧ ST q wr x op S ∧ Only q.S w wr) (fun cv _ => (4 - intOf cv).toNat)
  case atStart => exact ⟨0, rfl, by omega, fun j hj => (by omega), (unhide HS1).1, (unhide HS1).2⟩
  case round =>
    obtain ⟨i, rfl, hi, hsc, st2, o2⟩ := hrel
    have HC := hide hsc
    by_cases h5 : i < 5
    · have d1 : decide ((i : Int) - 1 ≤ 3) = true := decide_eq_true (by omega)
      have Y2 := (unhide HH).2.2.1.keep o2 (unhide HH).2.2.2
      obtain ⟨b2, hb2⟩ : ∃ b, decide (scnD (dbOf T) nm ((i : Int) - 1) none none = scnD D nm ((i : Int) - 1) none none) = b := ⟨_, rfl⟩
      have C2 := sameScan_any st2 (unhide HH).2.1 Y2 (unhide HH).2.2.2 nm ((i : Int) - 1) false false vZ vZ vZ_wf vZ_wf b2 hb2
      unfold bdA vZ at C2
      have C2 := hide C2
      have HO2 := hide o2
      clear hsc st2 o2 Y2
      go_wp2_with fail
      refine (unhide C2).mono ?_
      rintro e w3 ⟨rfl, st3, o3⟩
      cases b2 with
      | false =>
        have HP := hide (show ∃ b, (Ending.returned (.bool false)) = .returned (.bool b) ∧ AtB (dbOf T) D nm b ∧ ST q w3 x op S ∧ Only q.S w w3 from ⟨false, rfl, ⟨(fun e => by cases e), fun e => absurd (by rw [e]) (of_decide_eq_false hb2)⟩, st3, (unhide HO2).ss o3⟩)
        clear st3 o3 C2 hb2
        go_wp2_with fail
        go_ret
        exact unhide HP
      | true =>
        have HN := hide (show ∀ j : Nat, j < i + 1 → scnD (dbOf T) nm ((j : Int) - 1) none none = scnD D nm ((j : Int) - 1) none none from fun j hj => by
          by_cases c : j = i
          · subst c; exact of_decide_eq_true hb2
          · exact unhide HC j (by omega))
        have HS3 := hide (And.intro st3 ((unhide HO2).ss o3))
        clear st3 o3 C2 hb2
        go_wp2_with fail
        go_roundw
        case rel => exact ⟨i + 1, by go_num, by omega, unhide HN, (unhide HS3).1, (unhide HS3).2⟩
        case measure => simp [intOf]; omega
    · obtain rfl : i = 5 := by omega
      have HAls := hide (show Als (dbOf T) D nm from ⟨unhide HS, fun c h1 h2 => by
        have := unhide HC (c + 1).toNat (by omega)
        rw [show (((c + 1).toNat : Nat) : Int) - 1 = c by omega] at this
        exact this⟩)
      have Y2 := (unhide HH).2.2.1.keep o2 (unhide HH).2.2.2
      have dD := Y2.ok
      have C3 := hide (yschema_any Y2 nm)
      have HS2 := hide (And.intro st2 (And.intro o2 (And.intro Y2 dD)))
      clear hsc st2 o2 Y2 dD HC
      obtain ⟨s, hs⟩ : ∃ s, schD D nm = s := ⟨_, rfl⟩
      rw [hs] at C3
      have HSS := hide hs
      clear hs
      go_wp2_with fail
      refine (unhide C3).mono ?_
      rintro e w3 ⟨cv, rfl, OC, nC, o3⟩
      obtain ⟨s1, t1, hs1⟩ := OC.shape
      obtain ⟨l1, hl1⟩ : ∃ l, s.cols.length = l := ⟨_, rfl⟩
      rw [hl1] at hs1
      subst hs1
      have oA : Only (fun _ => False) w3 (w3.alloc (.cells #[.string s.nm, .slice s1 l1 t1, .int .i64 s.pk, .int .i64 s.ix] 65)) := (Only.refl _ _).alloc _
      have A1 : Has (w3.alloc (.cells #[.string s.nm, .slice s1 l1 t1, .int .i64 s.pk, .int .i64 s.ix] 65)) w3.heap.size #[.string s.nm, .slice s1 l1 t1, .int .i64 s.pk, .int .i64 s.ix] 65 := Has.new _ _ _
      have o34 := o3.trans oA (fun _ _ e => e)
      have HS3 := hide (And.intro ((unhide HS2).1.quiet o34) (And.intro ((unhide HS2).2.1.andS o34) (And.intro ((unhide HS2).2.2.1.quiet o34) A1)))
      have hge : w.heap.size ≤ w3.heap.size := Nat.le_trans (unhide HS2).2.1.size o3.size
      clear OC nC o3 oA A1 o34 C3 hl1
      go_upto_region 9 with fail
      generalize w3.alloc (.cells #[.string s.nm, .slice s1 l1 t1, .int .i64 s.pk, .int .i64 s.ix] 65) = w4 at *
      have hA := (unhide HS3).2.2.2.lt
      generalize w3.heap.size = ka at *
      have a2 := (unhide HS3).2.2.2.cell 2
      simp at a2
      have C4 := yscan_any (unhide HS3).2.2.1 nm s.pk false false vZ vZ vZ_wf vZ_wf
      unfold bdA vZ at C4
      have C4 := hide C4
      go_wp2_with fail
      refine (unhide C4).mono ?_
      rintro e w5 ⟨rv, Z, rfl, hZ, R5, hO5, n5, o5⟩
      have hkey : ∀ r ∈ Z.map (·.2), ∃ p : Nat, s.pk = p ∧ ∃ v, r[p]? = some v ∧ v.wf := by
        rw [hZ, ← unhide HSS]
        exact scn_key (unhide HS2).2.2.2 nm
      have hlen : Z.length ≤ 1000 := by
        have := scn_len (unhide HS2).2.2.2 nm s.pk none none
        rw [show (scnD D nm s.pk none none).1 = Z.map (·.2) from hZ.symm, List.length_map] at this
        exact this
      have s34 := (unhide HS3).2.1.size
      have nS : ∀ k, w4.heap.size ≤ k → ¬ q.S k := fun k hk => (unhide HH).1.new (by omega)
      have nka : ¬ q.S ka := (unhide HH).1.new hge
      have HZ := hide (And.intro R5 (And.intro hO5 (And.intro n5 (And.intro hkey (And.intro nS (And.intro nka ((unhide HS3).2.2.2.keep o5 (fun e => e))))))))
      have HY5 := hide (And.intro ((unhide HS3).1.quiet o5) (And.intro ((unhide HS3).2.1.andS o5) ((unhide HS3).2.2.1.quiet o5)))
      obtain ⟨ra, rc, hrv⟩ := ownsRow_shape R5
      obtain ⟨n, hn⟩ : ∃ n, Z.length = n := ⟨_, rfl⟩
      rw [hn] at hrv hlen
      have HN := hide hn
      subst hrv
      clear R5 hO5 n5 hkey nS nka hZ hn o5 C4 a2 s34
      go_upto_region 11 with fail
      go_loopw [12] (fun iv wr => ∃ i : Nat, iv = .int .i64 i ∧ i ≤ n ∧ ST q wr x op S ∧ Only q.S w5 wr) (fun iv _ => n - (intOf iv).toNat)
      case atStart => exact ⟨0, rfl, Nat.zero_le _, (unhide HY5).1, Only.refl _ _⟩
      case round =>
        obtain ⟨i, rfl, hi, stW, oW⟩ := hrel
        by_cases hin : i < n
        · have e1 : decide ((i : Int) < (n : Int)) = true := decide_eq_true (by omega)
          have e1p : (i : Int) < (n : Int) := by omega
          obtain ⟨zz, hzz⟩ := getE (l := Z) (i := i) (by rw [unhide HN]; exact hin)
          have hzm := List.mem_of_getElem? hzz
          obtain ⟨p, hp, kv, hkv, kwf⟩ := (unhide HZ).2.2.2.1 zz.2 (List.mem_map.mpr ⟨zz, hzm, rfl⟩)
          have nS := (unhide HZ).2.2.2.2.1
          have RW := ownsRow_keep (unhide HZ).1 oW (fun k hk => nS k ((unhide HZ).2.2.1 k hk))
          have OW : OwnV wr zz.1 zz.2 := ((unhide HZ).2.1 zz hzm).1.keep oW (fun k hk => nS k (((unhide HZ).2.1 zz hzm).2 k hk))
          rw [unhide HN] at RW
          obtain ⟨g, hg⟩ := own_slice RW (by omega)
          subst hg
          have cu := World.ownsRow.cells RW (g := g) rfl i zz.1 (by rw [List.getElem?_map, hzz]; rfl)
          rw [addr_add] at cu
          obtain ⟨g1, k1, hue, u0, u1, u2⟩ := getv_at OW hkv
          rw [hue] at cu
          have xl : (p : Int) < (zz.2.length : Int) := by have := (List.getElem?_eq_some_iff.mp hkv).1; omega
          obtain ⟨xn, hxn⟩ : ∃ xn, zz.2.length = xn := ⟨_, rfl⟩
          rw [hxn] at cu xl
          have a2 := ((unhide HZ).2.2.2.2.2.2.keep oW (unhide HZ).2.2.2.2.2.1).cell 2
          simp at a2
          rw [hp] at a2
          have YW := ((unhide HY5).2.2.keep oW (unhide HH).2.2.2).quiet (Only.refl (fun _ => False) wr).drew
          obtain ⟨b3, hb3⟩ : ∃ b, decide (lkpD (dbOf T) nm kv = lkpD D nm kv) = b := ⟨_, rfl⟩
          have C5 := sameLookup_any (stW.quiet (Only.refl (fun _ => False) wr).drew) (unhide HH).2.1 YW (unhide HH).2.2.2 nm kv kwf b3 hb3
          unfold vlA at C5
          have C5 := hide C5
          have HOW := hide oW
          clear hzz hzm hp hkv kwf nS RW OW hue hxn YW oW stW
          go_upto_region 13 with fail
          go_cut [64] (fun bv wx => bv = .bool (!b3) ∧ ST q wx x op S ∧ Only q.S wr wx)
          case first =>
            go_region_with (go_at_call 83; refine (unhide C5).mono ?_; rintro e w6 ⟨rfl, st6, o6⟩; have HF := hide (And.intro st6 ((Only.refl q.S wr).drew.ss o6)); clear st6 o6)
            all_goals
              go_wp2_with fail
              go_meet
              exact ⟨rfl, unhide HF⟩
          case rest =>
          obtain ⟨rfl, st6, o6⟩ := hcut
          generalize wc = w6 at *
          have HS6 := hide (And.intro st6 ((unhide HOW).ss o6))
          clear st6 o6 C5 cu u0 u1 u2 a2 xl
          cases b3 with
          | true =>
            go_wp2_with fail
            go_roundw
            case rel => exact ⟨i + 1, by go_num, by omega, (unhide HS6).1, (unhide HS6).2⟩
            case measure => simp [intOf]; omega
          | false =>
            have HP := hide (show ∃ b, (Ending.returned (.bool false)) = .returned (.bool b) ∧ AtB (dbOf T) D nm b ∧ ST q w6 x op S ∧ Only q.S w w6 from ⟨false, rfl, ⟨(fun e => by cases e), fun e => absurd (by rw [e]) (of_decide_eq_false hb3)⟩, (unhide HS6).1, (unhide HY5).2.1.ss (unhide HS6).2⟩)
            clear hb3
            go_wp2_with fail
            go_ret
            exact unhide HP
        · obtain rfl : i = n := by omega
          have e1 : decide ((i : Int) < (i : Int)) = false := by simp
          have HP := hide (show ∃ b, (Ending.returned (.bool true)) = .returned (.bool b) ∧ AtB (dbOf T) D nm b ∧ ST q wr x op S ∧ Only q.S w wr from ⟨true, rfl, ⟨fun _ => unhide HAls, fun _ => rfl⟩, stW, (unhide HY5).2.1.ss oW⟩)
          clear stW oW
          go_wp2_with fail
          go_ret
          exact unhide HP
end
end Go.Proofs.Qxb6500413aGreat
