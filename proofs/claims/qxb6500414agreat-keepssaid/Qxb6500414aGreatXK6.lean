/-
  OWN WORK. TXN, Keeps: Early (written by tools/gen_xk6.py).
-/
import Derived.Test.Qxb6500414aGreatXK5
namespace Go.Proofs.Qxb6500414aGreat
open Go.RowKit Go.PlainAid
set_option linter.unusedSimpArgs false
set_option linter.unusedVariables false
/-- What Early answers. -/
def EaP (w : World) (M : Mu) (a : Int) (nm : ByteArray) (ch : Bool) (e : Ending) (w' : World) : Prop := ∃ z, e = .returned (.int .i64 z) ∧ M.TkZ a nm (if ch = true then 2 else 1) z ∧ Only (fun _ => False) w w'
/-- Session j bars s. -/
def Mu.barK (M : Mu) (s : Nat) (nm : ByteArray) (ch : Bool) (j : Nat) : Prop := j ≠ s ∧ (M.lk j nm = 2 ∨ (ch = true ∧ M.lk j nm ≠ 0))
section
variable {lo : Nat} {w w' : World} {k k2 : Nat} {M N : Mu} {s t : Nat} {T : Tb}
set_option maxRecDepth 100000 in
set_option maxHeartbeats 2000000 in
theorem xlearly_any (H : Sht lo w k M) (hB : MuB M) (ok oa ob oc : Int) (os ot : ByteArray) (ch : Bool) : Calls Tryz.prog 167 #[.pointer (some ⟨k, 0, none⟩), opX ok oa ob oc os ot, .bool ch] w (EaP w M oa os ch) := by
  have o0 : Only (fun _ => False) w (w.alloc (.cells #[.int .i64 ok, .int .i64 oa, .int .i64 ob, .int .i64 oc, .string os, .string ot] 44)) := (Only.refl _ w).alloc _
  have HN := hide (Has.new w #[.int .i64 ok, .int .i64 oa, .int .i64 ob, .int .i64 oc, .string os, .string ot] 44)
  have HH := hide (And.intro (H.quiet o0) (And.intro o0 hB))
  unfold opX
  clear H o0 hB
  go_enter Tryz.func167, Tryz.ntmps167
  go_upto_region 1 with fail
  generalize w.alloc (.cells #[.int .i64 ok, .int .i64 oa, .int .i64 ob, .int .i64 oc, .string os, .string ot] 44) = w0 at *
  generalize hko : w.heap.size = ko at *
  clear hko
  have a0 : w0.cell? ⟨ko, 0, none⟩ = some (.int .i64 ok) := (unhide HN).cell 0
  have a1 : w0.cell? ⟨ko, 1, none⟩ = some (.int .i64 oa) := (unhide HN).cell 1
  have a4 : w0.cell? ⟨ko, 4, none⟩ = some (.string os) := (unhide HN).cell 4
  have C1 := xgood_any oa w0
  by_cases gd : ¬ gdS oa
  · rw [decide_eq_false gd] at C1
    have C1 := hide C1
    have HG := hide gd
    clear gd
    go_wp2_with fail
    refine (unhide C1).mono ?_
    rintro e w2 ⟨rfl, rfl⟩
    clear C1
    go_wp2_with fail
    go_ret
    exact ⟨20, rfl, .inl ⟨by rw [show M.inT oa = 20 from if_neg (unhide HG)]; omega, (show M.inT oa = 20 from if_neg (unhide HG)).symm⟩, (unhide HH).2.1⟩
  have gd : gdS oa := Decidable.not_not.mp gd
  rw [decide_eq_true gd] at C1
  have C1 := hide C1
  obtain ⟨s, rfl⟩ : ∃ n : Nat, oa = n := ⟨oa.toNat, by have := gd.1; omega⟩
  have hs : s < 4 := by have := gd.2; omega
  have s4 : (s : Int) < 4 := by omega
  have HG := hide gd
  clear gd
  go_wp2_with fail
  refine (unhide C1).mono ?_
  rintro e w2 ⟨rfl, rfl⟩
  clear C1
  have kl := (unhide HH).1.lt
  have p0 := (unhide HH).1.actAt hs
  obtain ⟨b, hb⟩ : ∃ b, M.act s = b := ⟨_, rfl⟩
  rw [hb] at p0
  have hT : M.inT (s : Int) = if b = true then 0 else 2 := by unfold Mu.inT; rw [if_pos (unhide HG), show ((s : Nat) : Int).toNat = s by omega, hb]
  clear hb
  cases b with
  | false =>
    have hT : M.inT (s : Int) = 2 := hT
    have HT := hide hT
    clear hT
    go_upto_region 3 with fail
    go_cut [20] from 13 to 20 (fun zv wx => zv = .bool true ∧ Only (fun _ => False) w0 wx)
    case first =>
      go_quiet (fail)
      go_wp2_with fail
      go_meet
      exact ⟨rfl, onlyQ _ _⟩
    case rest =>
    obtain ⟨rfl, oC⟩ := hcut
    generalize wc = w3 at *
    have FF := hide (show EaP w M (s : Int) os ch (.returned (.int .i64 2)) w3 from ⟨2, rfl, .inl ⟨by rw [unhide HT]; omega, (unhide HT).symm⟩, (unhide HH).2.1.trans oC (fun _ _ e => e)⟩)
    clear oC
    go_wp2_with fail
    go_ret
    exact unhide FF
  | true =>
    have hT : M.inT (s : Int) = 0 := hT
    have HT := hide hT
    clear hT
    go_upto_region 3 with fail
    go_cut [20] from 13 to 20 (fun zv wx => zv = .bool false ∧ Only (fun _ => False) w0 wx)
    case first =>
      go_quiet (fail)
      go_wp2_with fail
      go_meet
      exact ⟨rfl, onlyQ _ _⟩
    case rest =>
    obtain ⟨rfl, oC⟩ := hcut
    generalize wc = w3 at *
    have HO := hide ((unhide HH).2.1.trans oC (fun _ _ e => e))
    have H3 := (unhide HH).1.quiet oC
    have N3 := (unhide HN).keep oC (fun e => e)
    have b1 : w3.cell? ⟨ko, 1, none⟩ = some (.int .i64 (s : Int)) := N3.cell 1
    have b4 : w3.cell? ⟨ko, 4, none⟩ = some (.string os) := N3.cell 4
    have kl3 := H3.lt
    have CP := hide (xlplace_any H3 (unhide HH).2.2 os)
    have HH3 := hide H3
    clear oC a0 a1 a4 p0 H3 N3 kl
    go_wp2_with fail
    refine (unhide CP).mono ?_
    rintro e w4 ⟨z, rfl, hz, rfl⟩
    clear CP
    rcases hz with ⟨rfl, hno⟩ | ⟨t, T, rfl, ht, hn⟩
    · have hf : findD M.com os = none := by
        cases c : findD M.com os with
        | none => rfl
        | some T => obtain ⟨h1, h2⟩ := findD_mem c; exact absurd h2 (hno T h1)
      have FF := hide (show EaP w M (s : Int) os ch (.returned (.int .i64 10)) w3 from ⟨10, rfl, .inr (.inl ⟨unhide HT, hf, rfl⟩), unhide HO⟩)
      clear hno hf
      go_wp2_with fail
      go_ret
      exact unhide FF
    · have hf : findD M.com os ≠ none := fun c => findD_none c (List.mem_of_getElem? ht) hn
      have htl := (List.getElem?_eq_some_iff.mp ht).1
      obtain ⟨n, hn3⟩ : ∃ n, M.com.length = n := ⟨_, rfl⟩
      have hl := (unhide HH).2.2.len
      rw [hn3] at htl hl
      have t3 : (t : Int) < (n : Int) := by omega
      have t0 : decide ((t : Int) < 0) = false := by simp
      have HFT := hide (And.intro hf (And.intro ht (And.intro hn hn3)))
      clear hf ht hn hn3
      go_upto_region 9 with fail
      go_loopw [8] (fun uv wr => ∃ u : Nat, uv = .int .i64 u ∧ u ≤ 4 ∧ (∀ j, j < u → ¬ M.barK s os ch j) ∧ wr = w3) (fun uv _ => 5 - (intOf uv).toNat)
      case atStart => exact ⟨0, rfl, by omega, fun j hj => by omega, rfl⟩
      case round =>
        obtain ⟨u, rfl, hu, hne, hwr⟩ := hrel
        subst wr
        have HNE := hide hne
        clear hne
        by_cases hu4 : u < 4
        · have a1 : decide ((u : Int) < 4) = true := decide_eq_true (by omega)
          have u4 : (u : Int) < 4 := by omega
          obtain ⟨gl, cl, l1, l2⟩ := (unhide HH3).lkAt hu4 (unhide HFT).2.1
          rw [(unhide HFT).2.2.2] at l1
          rw [(unhide HFT).2.2.1] at l2
          have nxt : ¬ M.barK s os ch u → ∀ j, j < u + 1 → ¬ M.barK s os ch j := fun h j hj => by
            by_cases e : j = u
            · subst e; exact h
            · exact unhide HNE j (by omega)
          have yes : M.barK s os ch u → EaP w M (s : Int) os ch (.returned (.int .i64 21)) w3 := fun h => ⟨21, rfl, .inr (.inr (.inl ⟨unhide HT, (unhide HFT).1, ⟨u, hu4, by rw [show ((s : Nat) : Int).toNat = s by omega]; exact h.1, h.2.imp id (fun e => ⟨by rw [e.1]; rfl, e.2⟩)⟩, rfl⟩)), unhide HO⟩
          obtain ⟨z, hz⟩ : ∃ z : Int, M.lk u os = z := ⟨_, rfl⟩
          rw [hz] at l2
          by_cases h1 : u = s
          · have c1 : ((u : Int) != (s : Int)) = false := by simp [h1]
            have HN2 := hide (nxt (fun h => h.1 h1))
            clear h1 yes
            clear hz nxt
            go_wp2_with fail
            go_roundw
            case rel => exact ⟨u + 1, by go_num, by omega, unhide HN2, trivial⟩
            case measure => simp [intOf]; omega
          · have c1 : ((u : Int) != (s : Int)) = true := by simp; omega
            by_cases h2 : z = 2
            · have FF := hide (yes ⟨h1, .inl (hz.trans h2)⟩)
              subst h2
              clear h1 hz nxt yes
              go_wp2_with fail
              go_ret
              exact unhide FF
            · have c2 : (z == 2) = false := ne_intO h2
              cases ch with
              | false =>
                have HN2 := hide (nxt (fun h => h.2.elim (fun e => h2 (hz.symm.trans e)) (fun e => by cases e.1)))
                clear h1 h2 yes
                clear hz nxt
                go_wp2_with fail
                go_roundw
                case rel => exact ⟨u + 1, by go_num, by omega, unhide HN2, trivial⟩
                case measure => simp [intOf]; omega
              | true =>
                by_cases h3 : z = 0
                · have HN2 := hide (nxt (fun h => h.2.elim (fun e => h2 (hz.symm.trans e)) (fun e => e.2 (hz.trans h3))))
                  subst h3
                  clear h1 h2 yes c2
                  clear hz nxt
                  go_wp2_with fail
                  go_roundw
                  case rel => exact ⟨u + 1, by go_num, by omega, unhide HN2, trivial⟩
                  case measure => simp [intOf]; omega
                · have c3 : (z != 0) = true := by simpa using h3
                  have FF := hide (yes ⟨h1, .inr ⟨rfl, fun e => h3 (hz.symm.trans e)⟩⟩)
                  clear h1 h2 h3 hz nxt yes
                  go_wp2_with fail
                  go_ret
                  exact unhide FF
        · have a1 : decide ((u : Int) < 4) = false := decide_eq_false (by omega)
          have FF := hide (show EaP w M (s : Int) os ch (.returned (.int .i64 0)) w3 from ⟨0, rfl, .inr (.inr (.inr ⟨unhide HT, (unhide HFT).1, fun ⟨o, ho, hno, h⟩ => unhide HNE o (by omega) ⟨by rw [show ((s : Nat) : Int).toNat = s by omega] at hno; exact hno, h.imp id (fun e => ⟨by cases ch with
            | true => rfl
            | false => exact absurd e.1 (by decide), e.2⟩)⟩, rfl⟩)), unhide HO⟩)
          go_wp2_with fail
          go_ret
          exact unhide FF
end
end Go.Proofs.Qxb6500414aGreat
