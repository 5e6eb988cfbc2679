/-
  OWN WORK. THE TABLE LAW: Alike.
-/
import Derived.Test.Qxb6500413aGreatYL4
namespace Go.Proofs.Qxb6500413aGreat
open Go.RowKit Go.PlainAid
set_option linter.unusedSimpArgs false
set_option linter.unusedVariables false

section
variable {q : Gnd} {w : World} {x z : Nat} {op opz : Bool} {S : Vu} {T : List (Tb × Hd)} {D Tz U : Db} {hist : Option Db} {Hz : Nat → Prop}
def AlP (w : World) (q : Gnd) (x : Nat) (op opz : Bool) (S : Vu) (A D : Db) (e : Ending) (w' : World) : Prop := ∃ b, e = .returned (.bool b) ∧ (b = true ↔ A = D ∧ op = opz) ∧ ST q w' x op S ∧ Only q.S w w'
set_option maxRecDepth 100000 in
set_option maxHeartbeats 8000000 in
theorem alike_any (H : ST q w x op S) (L : Lay S T) (Y : YAt w z D Tz U hist opz Hz) (sep : ∀ k, Hz k → ¬ q.S k) : Calls Tryz.prog 60 #[.pointer (some ⟨x, 0, none⟩), .pointer (some ⟨z, 0, none⟩)] w (AlP w q x op opz S (dbOf T) D) := by
  have hnl : (namesD D).length ≤ 3 := by have := Y.ok.len; unfold namesD; rw [List.length_map]; exact this
  have hnT : T.map (fun x => x.1.nm) = namesD (dbOf T) := by unfold namesD dbOf; rw [List.map_map]; rfl
  have hTl : (namesD (dbOf T)).length ≤ 3 := by have := L.dok.len; unfold namesD; rw [List.length_map]; exact this
  have HD := hide (And.intro L.dok Y.ok)
  have C1 := hide (ynames_any Y)
  have HH := hide (And.intro H (And.intro L (And.intro Y sep)))
  clear H L Y sep
  go_enter Tryz.func60, Tryz.ntmps60
  go_wp2_with fail
  refine (unhide C1).mono ?_
  rintro e w1 ⟨nv, rfl, G1⟩
  have st1 := (unhide HH).1.quiet G1.ho
  have Y1 := (unhide HH).2.2.1.quiet G1.ho
  have C2 := etables_any st1 (unhide HH).2.1
  rw [hnT] at C2
  have C2 := hide C2
  have HG1 := hide (And.intro G1 (And.intro st1 Y1))
  clear G1 st1 Y1 C1
  go_wp2_with fail
  refine (unhide C2).mono ?_
  rintro e w2 ⟨xv, rfl, OX, nX, st2, o2⟩
  have G2 : w2.ownsRow 0 9 1 nv (namesD D).length ((namesD D).map Value.string) := ownsRow_keep (unhide HG1).1.own o2 (fun k hk => (unhide HH).1.new ((unhide HG1).1.hb k hk))
  have Y2 := (unhide HG1).2.2.keep o2 (unhide HH).2.2.2
  have C3 := hide (sintxn_any st2)
  have C4 := hide (yintxn_any Y2)
  have oA := (unhide HG1).1.ho.toS.ss o2
  have HS2 := hide (And.intro G2 (And.intro Y2 (And.intro OX (And.intro nX (And.intro st2 oA)))))
  clear G2 Y2 OX nX st2 o2 oA C2
  go_wp2_with fail
  refine (unhide C3).mono ?_
  rintro e w3 ⟨rfl, rfl⟩
  go_wp2_with fail
  refine (unhide C4).mono ?_
  rintro e w3 ⟨rfl, rfl⟩
  clear C3 C4
  by_cases hop : op = opz
  rotate_left
  · have d1 : (op != opz) = true := by simpa using hop
    have d1' : (op == opz) = false := by simpa using hop
    have d1x : (!op == opz) = true := by rw [d1']; rfl
    have HP := hide (show AlP w q x op opz S (dbOf T) D (.returned (.bool false)) w2 from ⟨false, rfl, ⟨(fun e => by cases e), fun e => absurd e.2 hop⟩, (unhide HS2).2.2.2.2.1, (unhide HS2).2.2.2.2.2⟩)
    clear hop
    go_wp2_with fail
    go_ret
    exact unhide HP
  have d1 : (op != opz) = false := by rw [hop]; simp
  have d1' : (op == opz) = true := by rw [hop]; simp
  have d1x : (!op == opz) = false := by rw [d1']; rfl
  have HOP := hide hop
  clear hop
  obtain ⟨b5, hb5⟩ : ∃ b, decide (namesD (dbOf T) = namesD D) = b := ⟨_, rfl⟩
  have C5 := hide (sameNames_any (unhide HS2).2.2.1 (unhide HS2).1 (by omega) b5 hb5)
  go_wp2_with fail
  refine (unhide C5).mono ?_
  rintro e w3 ⟨rfl, o3⟩
  have HS3 := hide (And.intro (ownsRow_keep (unhide HS2).1 o3 (fun _ _ e => e)) (And.intro ((unhide HS2).2.1.quiet o3) (And.intro ((unhide HS2).2.2.1) (And.intro ((unhide HS2).2.2.2.2.1.quiet o3) ((unhide HS2).2.2.2.2.2.andS o3)))))
  have OX3 : OwnN w3 xv (namesD (dbOf T)) := ownsRow_keep (unhide HS2).2.2.1 o3 (fun _ _ e => e)
  clear o3 C5 d1 d1' d1x
  cases b5 with
  | false =>
    have HP := hide (show AlP w q x op opz S (dbOf T) D (.returned (.bool false)) w3 from ⟨false, rfl, ⟨(fun e => by cases e), fun e => absurd (by rw [e.1]) (of_decide_eq_false hb5)⟩, (unhide HS3).2.2.2.1, (unhide HS3).2.2.2.2⟩)
    clear hb5 OX3
    go_wp2_with fail
    go_ret
    exact unhide HP
  | true =>
  have HNM := hide (of_decide_eq_true hb5)
  have C6 := hide (spoilNames_any OX3 (by omega))
  clear OX3 hb5
  go_wp2_with fail
  refine (unhide C6).mono ?_
  rintro e w4 ⟨rfl, o4⟩
  have hs1 := (unhide HG1).1.ho.size
  have xl : ∀ k, xv.ownBlock = some k → w1.heap.size ≤ k := (unhide HS2).2.2.2.1
  have G4 : w4.ownsRow 0 9 1 nv (namesD D).length ((namesD D).map Value.string) := ownsRow_keep (unhide HS3).1 o4 (fun k hk e => by
    have := xl k e
    have := ownsRow_lt (unhide HG1).1.own k hk
    omega)
  have st4 : ST q w4 x op S := (unhide HS3).2.2.2.1.keep o4 (fun k hk e => by
    have := xl k e
    rcases hk with hk | hk
    · have := (unhide HH).1.fv.Alt k hk
      omega
    · have := (unhide HH).1.has.lt
      omega)
  have oB : Only q.S w w4 := (unhide HS3).2.2.2.2.trans o4 (fun k hk e => by have := xl k e; omega)
  have Y4 : YAt w4 z D Tz U hist opz Hz := (unhide HS3).2.1.keep o4 (fun k hk e => by
    have := xl k e
    have := (unhide HH).2.2.1.inn k hk
    omega)
  have HS4 := hide (And.intro G4 (And.intro Y4 (And.intro st4 oB)))
  obtain ⟨na, nc, hnv⟩ := ownsRow_shape G4
  obtain ⟨n, hn⟩ : ∃ n, (namesD D).length = n := ⟨_, rfl⟩
  rw [hn] at hnv hnl
  subst hnv
  have HN := hide hn
  clear G4 Y4 st4 oB o4 C6 hs1 xl hn hTl hnT
  go_upto_region 11 with fail
  go_loopw [9] (fun iv wr => ∃ i : Nat, iv = .int .i64 i ∧ i ≤ n ∧ (∀ j nm, j < i → (namesD D)[j]? = some nm → Als (dbOf T) D nm) ∧ ST q wr x op S ∧ Only q.S w4 wr) (fun iv _ => n - (intOf iv).toNat)
  case atStart => exact ⟨0, rfl, Nat.zero_le _, fun j nm hj => (by omega), (unhide HS4).2.2.1, Only.refl _ _⟩
  case round =>
    obtain ⟨i, rfl, hi, hal, stW, oW⟩ := hrel
    have HAL := hide hal
    have YW := (unhide HS4).2.1.keep oW (unhide HH).2.2.2
    clear hal
    by_cases hin : i < n
    · have e1 : decide ((i : Int) < (n : Int)) = true := decide_eq_true (by omega)
      have e1p : (i : Int) < (n : Int) := by omega
      obtain ⟨nm, hnm⟩ := getE (l := namesD D) (i := i) (by rw [unhide HN]; exact hin)
      have RW := ownsRow_keep (unhide HS4).1 oW (fun k hk => (unhide HH).1.new ((unhide HG1).1.hb k hk))
      rw [unhide HN] at RW
      obtain ⟨g, hg⟩ := own_slice RW (by omega)
      subst hg
      have cu := World.ownsRow.cells RW (g := g) rfl i (.string nm) (by rw [List.getElem?_map, hnm]; rfl)
      rw [addr_add] at cu
      have C7 := hide (alikeTable_any stW (unhide HH).2.1 YW (unhide HH).2.2.2 nm)
      have HNI := hide hnm
      have HOW := hide oW
      clear RW hnm stW oW YW
      go_wp2_with fail
      refine (unhide C7).mono ?_
      rintro e w5 ⟨b, rfl, hb, st5, o5⟩
      have HS5 := hide (And.intro st5 (And.intro ((unhide HOW).ss o5) hb))
      clear st5 o5 hb C7 cu
      cases b with
      | true =>
        have HA2 := hide (show ∀ j nm, j < i + 1 → (namesD D)[j]? = some nm → Als (dbOf T) D nm from fun j y hj hy => by
          by_cases c : j = i
          · subst c
            rw [unhide HNI] at hy
            cases hy
            exact (unhide HS5).2.2.1 rfl
          · exact unhide HAL j y (by omega) hy)
        go_wp2_with fail
        go_roundw
        case rel => exact ⟨i + 1, by go_num, by omega, unhide HA2, (unhide HS5).1, (unhide HS5).2.1⟩
        case measure => simp [intOf]; omega
      | false =>
        have HP := hide (show AlP w q x op opz S (dbOf T) D (.returned (.bool false)) w5 from ⟨false, rfl, ⟨(fun e => by cases e), fun e => (unhide HS5).2.2.2 e.1⟩, (unhide HS5).1, (unhide HS4).2.2.2.ss (unhide HS5).2.1⟩)
        go_wp2_with fail
        go_ret
        exact unhide HP
    · obtain rfl : i = n := by omega
      have e1 : decide ((i : Int) < (i : Int)) = false := by simp
      have C8 := hide (alikeTable_any stW (unhide HH).2.1 YW (unhide HH).2.2.2 ⟨#[]⟩)
      have HEQ := hide (show dbOf T = D from alike_eq (unhide HD).1 (unhide HD).2 (unhide HNM) (fun nm hnm => by
        obtain ⟨j, hj⟩ := List.getElem?_of_mem hnm
        have := (List.getElem?_eq_some_iff.mp hj).1
        exact unhide HAL j nm (by rw [unhide HN] at this; exact this) hj))
      have HOW := hide oW
      clear stW oW YW
      go_wp2_with fail
      refine (unhide C8).mono ?_
      rintro e w5 ⟨b, rfl, hb, st5, o5⟩
      obtain rfl := hb.2 (unhide HEQ)
      have HP := hide (show AlP w q x op opz S (dbOf T) D (.returned (.bool true)) w5 from ⟨true, rfl, ⟨fun _ => ⟨unhide HEQ, unhide HOP⟩, fun _ => rfl⟩, st5, ((unhide HS4).2.2.2.ss (unhide HOW)).ss o5⟩)
      clear st5 o5 hb C8
      go_wp2_with fail
      go_ret
      exact unhide HP
end
end Go.Proofs.Qxb6500413aGreat
