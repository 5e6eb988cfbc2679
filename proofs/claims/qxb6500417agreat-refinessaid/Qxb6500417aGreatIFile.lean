/-
  OWN WORK. THE INDEX: strings; api's HasPrefix, Clash, GoodPath.
-/
import Derived.Test.Qxb6500417aGreatProg
import Derived.Test.Qxb6500417aGreatHeap
import Derived.WalkLawsBesides
import Derived.WalkSpells
import Derived.BigRegion
import Derived.BigQuiet
import Derived.Deep.QuietTactic
import Derived.Deep.RegionHeld3
import Derived.Deep.AppendLies
import Derived.Deep.DeepCutAuto
import Derived.PlainAid
import Derived.Laws.Cover1
import Derived.Sort.Walk0
namespace Go.Proofs.Qxb6500417aGreat
open Go.RowKit Go.PlainAid
set_option linter.unusedSimpArgs false
set_option linter.unusedVariables false

abbrev Str := List UInt8
def ls (s : ByteArray) : Str := s.data.toList
theorem ls_toList (s : ByteArray) : s.toList = ls s := ByteArray.toList_eq s
theorem ls_len (s : ByteArray) : (ls s).length = s.size := by simp [ls]
theorem ls_inj {a b : ByteArray} (h : ls a = ls b) : a = b := by
  cases a; cases b
  simp [ls] at h
  rw [h]
theorem ls_cat (a b : ByteArray) : ls (a ++ b) = ls a ++ ls b := by
  simp [ls]
theorem ls_cut (s : ByteArray) (a b : Nat) : ls (s.extract a b) = ((ls s).drop a).take (b - a) := by
  simp [ls, List.extract_eq_take_drop]
theorem ls_at (s : ByteArray) (i : Nat) (h : i < s.size) : ∃ c : UInt8, bt s i = (c.toNat : Int) ∧ (ls s).drop i = c :: (ls s).drop (i + 1) := by
  have h' : i < (ls s).length := by rw [ls_len]; exact h
  refine ⟨(ls s)[i], ?_, List.drop_eq_getElem_cons h'⟩
  unfold bt
  rw [dif_pos h]
  rfl
theorem ls_eq_iff (a b : ByteArray) : (a.toList == b.toList) = decide (ls a = ls b) := by
  rw [ls_toList, ls_toList]
  by_cases h : ls a = ls b
  · rw [h]; simp
  · rw [decide_eq_false h]; simpa using h
theorem ne_byte {c : UInt8} {n : Nat} (hn : n < 256) : ((c.toNat : Int) == (n : Int)) = decide (c = UInt8.ofNat n) := by
  by_cases h : c = UInt8.ofNat n
  · subst h
    simp
    omega
  · rw [decide_eq_false h]
    simp
    intro e
    apply h
    have : c.toNat = n := by omega
    rw [← this]; simp

def preB (p s : Str) : Bool := decide (p <+: s)
theorem preB_iff (p s : Str) : preB p s = true ↔ p <+: s := by simp [preB]
theorem hasPrefix_any (s p : ByteArray) (w : World) :
    Calls Tryz.prog 186 #[.string s, .string p] w fun e w' => e = .returned (.bool (preB (ls p) (ls s))) ∧ w = w' := by
  by_cases hl : p.size ≤ s.size
  · have a1 : decide ((p.size : Int) ≤ (s.size : Int)) = true := by simp; omega
    have hb : ((s.extract 0 p.size).toList == p.toList) = preB (ls p) (ls s) := by
      rw [ls_eq_iff, ls_cut]
      unfold preB
      congr 1
      rw [List.prefix_iff_eq_take, ls_len]
      simp
      exact eq_comm
    have Hb := hide hb
    clear hb
    go_enter Tryz.func186, Tryz.ntmps186
    go_wp2_with fail
    go_ret
    rw [← unhide Hb]
    exact ⟨rfl, rfl⟩
  · have a1 : decide ((p.size : Int) ≤ (s.size : Int)) = false := by simp; omega
    have hb : preB (ls p) (ls s) = false := by
      unfold preB
      simp only [decide_eq_false_iff_not]
      intro h
      have := h.length_le
      rw [ls_len, ls_len] at this
      omega
    have Hb := hide hb
    clear hb
    go_enter Tryz.func186, Tryz.ntmps186
    go_wp2_with fail
    go_ret
    rw [unhide Hb]
    exact ⟨rfl, rfl⟩

def clashB (p q : Str) : Bool := preB (p ++ [47]) q || preB (q ++ [47]) p
theorem clash_any (p q : ByteArray) (hp : p.size ≤ 1000000) (hq : q.size ≤ 1000000) (w : World) :
    Calls Tryz.prog 198 #[.string p, .string q] w fun e w' => e = .returned (.bool (clashB (ls p) (ls q))) ∧ w = w' := by
  have hA : ((ByteArray.mk #[47]).size : Nat) = 1 := rfl
  have h1 : binOp .add 9 (.string p) (.string ⟨#[47]⟩) = pure (.string (p ++ ⟨#[47]⟩)) := by
    simp [binOp, Op.stringOp]
    intro h
    have : (ByteArray.mk #[47]).size = 1 := rfl
    exfalso
    omega
  have h2 : binOp .add 9 (.string q) (.string ⟨#[47]⟩) = pure (.string (q ++ ⟨#[47]⟩)) := by
    simp [binOp, Op.stringOp]
    intro h
    have : (ByteArray.mk #[47]).size = 1 := rfl
    exfalso
    omega
  have C1 := hasPrefix_any q (p ++ ⟨#[47]⟩) w
  have C2 := hasPrefix_any p (q ++ ⟨#[47]⟩) w
  have e0 : ls ⟨#[47]⟩ = [47] := rfl
  rw [ls_cat, e0] at C1 C2
  unfold clashB
  generalize preB (ls p ++ [47]) (ls q) = b1 at *
  generalize preB (ls q ++ [47]) (ls p) = b2 at *
  have C1 := hide C1
  have C2 := hide C2
  clear e0 hA
  cases b1 with
  | true =>
    go_enter Tryz.func198, Tryz.ntmps198
    go_wp2_with fail
    refine (unhide C1).mono ?_
    rintro e w' ⟨rfl, rfl⟩
    go_wp2_with fail
    go_ret
    exact ⟨rfl, rfl⟩
  | false =>
    go_enter Tryz.func198, Tryz.ntmps198
    go_wp2_with fail
    refine (unhide C1).mono ?_
    rintro e w' ⟨rfl, rfl⟩
    go_wp2_with fail
    refine (unhide C2).mono ?_
    rintro e w' ⟨rfl, rfl⟩
    go_wp2_with fail
    go_ret
    exact ⟨by first | exact rfl | simp, rfl⟩

def partB (n : Str) : Bool := !(n == [] || n == [46] || n == [46, 46])
def scanB : Str → Str → Bool
  | cur, [] => partB cur
  | cur, c :: r => if c = 47 then partB cur && scanB [] r else (decide (32 < c.toNat) && decide (c.toNat < 127)) && scanB (cur ++ [c]) r
def goodB (l : Str) : Bool := decide (1 ≤ l.length ∧ l.length ≤ 12) && scanB [] l

set_option maxRecDepth 100000 in
set_option maxHeartbeats 1000000 in
theorem goodPath_any (p : ByteArray) (w : World) :
    Calls Tryz.prog 197 #[.string p] w fun e w' => e = .returned (.bool (goodB (ls p))) ∧ w = w' := by
  have hb := get_bt p
  have hll := ls_len p
  by_cases h1 : p.size < 1
  · have a1 : decide ((p.size : Int) < 1) = true := by simp; omega
    have hg : goodB (ls p) = false := by
      unfold goodB
      rw [decide_eq_false (by omega)]
      rfl
    have Hg := hide hg
    clear hg
    go_enter Tryz.func197, Tryz.ntmps197
    go_wp2_with fail
    go_ret
    rw [unhide Hg]
    exact ⟨rfl, rfl⟩
  · have a1 : decide ((p.size : Int) < 1) = false := by simp; omega
    by_cases h2 : 12 < p.size
    · have a2 : decide ((12 : Int) < (p.size : Int)) = true := by simp; omega
      have hg : goodB (ls p) = false := by
        unfold goodB
        rw [decide_eq_false (by omega)]
        rfl
      have Hg := hide hg
      clear hg
      go_enter Tryz.func197, Tryz.ntmps197
      go_wp2_with fail
      go_ret
      rw [unhide Hg]
      exact ⟨rfl, rfl⟩
    · have a2 : decide ((12 : Int) < (p.size : Int)) = false := by simp; omega
      have hg : goodB (ls p) = scanB [] (ls p) := by
        unfold goodB
        rw [decide_eq_true (by omega)]
        rfl
      have Hg := hide hg
      have Hll := hide hll
      clear hg hll
      go_enter Tryz.func197, Tryz.ntmps197
      go_wp2_with fail
      go_loop [3, 4] (fun sv iv => ∃ st i : Nat, i ≤ p.size + 1 ∧ sv = .int .i64 st ∧ iv = .int .i64 i ∧ st ≤ p.size + 1 ∧ (i ≤ p.size → st ≤ i ∧ scanB [] (ls p) = scanB (((ls p).drop st).take (i - st)) ((ls p).drop i)) ∧ (i = p.size + 1 → scanB [] (ls p) = true)) (fun _ iv => (p.size + 1) - (intOf iv).toNat)
      case atStart => exact ⟨0, 0, by omega, rfl, rfl, by omega, fun _ => ⟨by omega, by simp⟩, fun h => by omega⟩
      case round =>
        obtain ⟨st, i, hi, rfl, rfl, hst, hsc, hend⟩ := hrel
        by_cases hin : i ≤ p.size
        · obtain ⟨hsi, hsc'⟩ := hsc hin
          have c1 : decide ((i : Int) ≤ (p.size : Int)) = true := by simp; omega
          have hpart : ls (p.extract st i) = ((ls p).drop st).take (i - st) := ls_cut p st i
          have q0 : (p.extract st i).toList.isEmpty = (((ls p).drop st).take (i - st) == []) := by rw [ls_toList, hpart]; cases ((ls p).drop st).take (i - st) <;> rfl
          have q1 : ((p.extract st i).toList == [46]) = (((ls p).drop st).take (i - st) == [46]) := by rw [ls_toList, hpart]
          have q2 : ((p.extract st i).toList == [46, 46]) = (((ls p).drop st).take (i - st) == [46, 46]) := by rw [ls_toList, hpart]
          have hcut : ∀ c, (ls p).drop i = c :: (ls p).drop (i + 1) → ((ls p).drop st).take (i + 1 - st) = ((ls p).drop st).take (i - st) ++ [c] := by
            intro c hc
            have e1 : i + 1 - st = (i - st) + 1 := by omega
            rw [e1, List.take_add_one]
            have e2 : ((ls p).drop st)[i - st]? = some c := by
              rw [List.getElem?_drop]
              have e3 : st + (i - st) = i := by omega
              rw [e3]
              have := congrArg (fun l => l[0]?) hc
              simpa using this
            rw [e2]
            rfl
          generalize ((ls p).drop st).take (i - st) = part at *
          have Hsc := hide hsc'
          have Hcut := hide hcut
          clear hsc hsc' hcut hend hpart
          have i1 : (0 : Int) ≤ (i : Int) := by omega
          have i2 : (st : Int) ≤ (i : Int) := by omega
          have i3 : (i : Int) ≤ (p.size : Int) := by omega
          by_cases hpk : partB part = true
          · have Hpk := hide hpk
            have w0 : (part == []) = false := by
              cases h : part == [] with
              | false => rfl
              | true => unfold partB at hpk; rw [h] at hpk; simp at hpk
            have w1 : (part == [46]) = false := by
              cases h : part == [46] with
              | false => rfl
              | true => unfold partB at hpk; rw [h] at hpk; simp at hpk
            have w2 : (part == [46, 46]) = false := by
              cases h : part == [46, 46] with
              | false => rfl
              | true => unfold partB at hpk; rw [h] at hpk; simp at hpk
            rw [w0] at q0
            rw [w1] at q1
            rw [w2] at q2
            clear hpk w0 w1 w2
            by_cases hie : i = p.size
            · have e1 : ((i : Int) == (p.size : Int)) = true := by rw [hie]; simp
              have hd : (ls p).drop i = [] := by rw [hie, ← ls_len]; simp
              have Hd := hide hd
              have Hie := hide hie
              clear hd hie
              go_wp2_with fail
              go_round
              case rel =>
                refine ⟨i + 1, i + 1, by omega, by go_num, by go_num, by omega, fun h => by have := unhide Hie; omega, fun _ => ?_⟩
                rw [unhide Hsc, unhide Hd]
                exact unhide Hpk
              case measure => simp [intOf]; omega
            · have e1 : ((i : Int) == (p.size : Int)) = false := by simp; omega
              have hip : i < p.size := by omega
              obtain ⟨c, hc, hd⟩ := ls_at p i hip
              have e2 : (bt p i == 47) = decide (c = 47) := by rw [hc]; exact ne_byte (n := 47) (by omega)
              have i4 : (i : Int) < (p.size : Int) := by omega
              have Hd := hide hd
              have hcr : (c.toNat : Int) ≤ 255 := by have := c.toNat_lt; omega
              clear hd
              by_cases hc47 : c = 47
              · rw [decide_eq_true hc47] at e2
                have Hc := hide hc47
                clear hc47 hc
                go_wp2_with fail
                go_round
                case rel =>
                  refine ⟨i + 1, i + 1, by omega, by go_num, by go_num, by omega, fun h => ⟨by omega, ?_⟩, fun h => by omega⟩
                  rw [unhide Hsc, unhide Hd]
                  have hz : i + 1 - (i + 1) = 0 := by omega
                  rw [hz, List.take_zero]
                  show (if c = 47 then partB part && scanB [] (List.drop (i + 1) (ls p)) else _) = _
                  rw [if_pos (unhide Hc), unhide Hpk]
                  rfl
                case measure => simp [intOf]; omega
              · rw [decide_eq_false hc47] at e2
                by_cases hlo : c.toNat ≤ 32
                · have e3 : decide (bt p i ≤ 32) = true := by rw [hc]; simp; omega
                  have hf : scanB [] (ls p) = false := by
                    rw [unhide Hsc, unhide Hd]
                    show (if c = 47 then _ else (decide (32 < c.toNat) && decide (c.toNat < 127)) && scanB (part ++ [c]) _) = false
                    rw [if_neg hc47, decide_eq_false (by omega)]
                    rfl
                  have Hf := hide hf
                  clear hf hc47 hc hlo
                  go_wp2_with fail
                  go_ret
                  rw [unhide Hg, unhide Hf]
                  exact ⟨rfl, rfl⟩
                · have e3 : decide (bt p i ≤ 32) = false := by rw [hc]; simp; omega
                  by_cases hhi : 127 ≤ c.toNat
                  · have e4 : decide (127 ≤ bt p i) = true := by rw [hc]; simp; omega
                    have hf : scanB [] (ls p) = false := by
                      rw [unhide Hsc, unhide Hd]
                      show (if c = 47 then _ else (decide (32 < c.toNat) && decide (c.toNat < 127)) && scanB (part ++ [c]) _) = false
                      rw [if_neg hc47, decide_eq_false (p := c.toNat < 127) (by omega)]
                      simp
                    have Hf := hide hf
                    clear hf hc47 hc hlo hhi
                    go_wp2_with fail
                    go_ret
                    rw [unhide Hg, unhide Hf]
                    exact ⟨rfl, rfl⟩
                  · have e4 : decide (127 ≤ bt p i) = false := by rw [hc]; simp; omega
                    have hn : scanB [] (ls p) = scanB (((ls p).drop st).take (i + 1 - st)) ((ls p).drop (i + 1)) := by
                      rw [unhide Hcut c (unhide Hd), unhide Hsc, unhide Hd]
                      show (if c = 47 then _ else (decide (32 < c.toNat) && decide (c.toNat < 127)) && scanB (part ++ [c]) _) = _
                      rw [if_neg hc47, decide_eq_true (p := c.toNat < 127) (by omega), decide_eq_true (p := 32 < c.toNat) (by omega)]
                      rfl
                    have Hn := hide hn
                    clear hn hc47 hc hlo hhi
                    go_wp2_with fail
                    go_round
                    case rel => exact ⟨st, i + 1, by omega, rfl, by go_num, by omega, fun h => ⟨by omega, unhide Hn⟩, fun h => by omega⟩
                    case measure => simp [intOf]; omega
          · have hpf : partB part = false := by simpa using hpk
            have Hpf := hide hpf
            have hor : (part == []) = true ∨ ((part == []) = false ∧ ((part == [46]) = true ∨ ((part == [46]) = false ∧ (part == [46, 46]) = true))) := by
              unfold partB at hpf
              cases h0 : part == [] with
              | true => exact .inl rfl
              | false =>
                cases h1 : part == [46] with
                | true => exact .inr ⟨rfl, .inl rfl⟩
                | false =>
                  cases h2 : part == [46, 46] with
                  | true => exact .inr ⟨rfl, .inr ⟨rfl, rfl⟩⟩
                  | false => rw [h0, h1, h2] at hpf; simp at hpf
            have Hor := hide hor
            clear hpk hpf hor
            by_cases hie : i = p.size ∨ bt p i = 47
            · have hf : scanB [] (ls p) = false := by
                rw [unhide Hsc]
                by_cases h0 : i = p.size
                · have hd : (ls p).drop i = [] := by rw [h0, ← ls_len]; simp
                  rw [hd]; exact unhide Hpf
                · obtain ⟨c, hc, hd⟩ := ls_at p i (by omega)
                  have h47 : bt p i = 47 := hie.resolve_left h0
                  have hc47 : c = 47 := by
                    have := ne_byte (c := c) (n := 47) (by omega)
                    rw [← hc, h47] at this
                    simpa using this
                  rw [hd]
                  show (if c = 47 then partB part && _ else _) = false
                  rw [if_pos hc47, unhide Hpf]
                  rfl
              have Hf := hide hf
              clear hf
              by_cases h0 : i = p.size
              · have e1 : ((i : Int) == (p.size : Int)) = true := by rw [h0]; simp
                clear hie h0
                rcases unhide Hor with a | ⟨a, b | ⟨b, c⟩⟩
                · rw [a] at q0
                  go_wp2_with fail
                  go_ret
                  rw [unhide Hg, unhide Hf]
                  exact ⟨rfl, rfl⟩
                · rw [a] at q0
                  rw [b] at q1
                  go_wp2_with fail
                  go_ret
                  rw [unhide Hg, unhide Hf]
                  exact ⟨rfl, rfl⟩
                · rw [a] at q0
                  rw [b] at q1
                  rw [c] at q2
                  go_wp2_with fail
                  go_ret
                  rw [unhide Hg, unhide Hf]
                  exact ⟨rfl, rfl⟩
              · have e1 : ((i : Int) == (p.size : Int)) = false := by simp; omega
                have h47 : bt p i = 47 := hie.resolve_left h0
                have e2 : (bt p i == 47) = true := by rw [h47]; rfl
                have i4 : (i : Int) < (p.size : Int) := by omega
                clear hie h0 h47
                rcases unhide Hor with a | ⟨a, b | ⟨b, c⟩⟩
                · rw [a] at q0
                  go_wp2_with fail
                  go_ret
                  rw [unhide Hg, unhide Hf]
                  exact ⟨rfl, rfl⟩
                · rw [a] at q0
                  rw [b] at q1
                  go_wp2_with fail
                  go_ret
                  rw [unhide Hg, unhide Hf]
                  exact ⟨rfl, rfl⟩
                · rw [a] at q0
                  rw [b] at q1
                  rw [c] at q2
                  go_wp2_with fail
                  go_ret
                  rw [unhide Hg, unhide Hf]
                  exact ⟨rfl, rfl⟩
            · have h0 : i ≠ p.size := fun h => hie (.inl h)
              have hip : i < p.size := by omega
              have e1 : ((i : Int) == (p.size : Int)) = false := by simp; omega
              have h47 : bt p i ≠ 47 := fun h => hie (.inr h)
              have e2 : (bt p i == 47) = false := by simpa using h47
              have i4 : (i : Int) < (p.size : Int) := by omega
              obtain ⟨c, hc, hd⟩ := ls_at p i hip
              have hc47 : c ≠ 47 := fun h => h47 (by rw [hc, h]; rfl)
              have Hd := hide hd
              clear hie h0 h47 hd
              by_cases hlo : c.toNat ≤ 32
              · have e3 : decide (bt p i ≤ 32) = true := by rw [hc]; simp; omega
                have hf : scanB [] (ls p) = false := by
                  rw [unhide Hsc, unhide Hd]
                  show (if c = 47 then _ else (decide (32 < c.toNat) && decide (c.toNat < 127)) && scanB (part ++ [c]) _) = false
                  rw [if_neg hc47, decide_eq_false (by omega)]
                  rfl
                have Hf := hide hf
                clear hf hc47 hc hlo
                go_wp2_with fail
                go_ret
                rw [unhide Hg, unhide Hf]
                exact ⟨rfl, rfl⟩
              · have e3 : decide (bt p i ≤ 32) = false := by rw [hc]; simp; omega
                by_cases hhi : 127 ≤ c.toNat
                · have e4 : decide (127 ≤ bt p i) = true := by rw [hc]; simp; omega
                  have hf : scanB [] (ls p) = false := by
                    rw [unhide Hsc, unhide Hd]
                    show (if c = 47 then _ else (decide (32 < c.toNat) && decide (c.toNat < 127)) && scanB (part ++ [c]) _) = false
                    rw [if_neg hc47, decide_eq_false (p := c.toNat < 127) (by omega)]
                    simp
                  have Hf := hide hf
                  clear hf hc47 hc hlo hhi
                  go_wp2_with fail
                  go_ret
                  rw [unhide Hg, unhide Hf]
                  exact ⟨rfl, rfl⟩
                · have e4 : decide (127 ≤ bt p i) = false := by rw [hc]; simp; omega
                  have hn : scanB [] (ls p) = scanB (((ls p).drop st).take (i + 1 - st)) ((ls p).drop (i + 1)) := by
                    rw [unhide Hcut c (unhide Hd), unhide Hsc, unhide Hd]
                    show (if c = 47 then _ else (decide (32 < c.toNat) && decide (c.toNat < 127)) && scanB (part ++ [c]) _) = _
                    rw [if_neg hc47, decide_eq_true (p := c.toNat < 127) (by omega), decide_eq_true (p := 32 < c.toNat) (by omega)]
                    rfl
                  have Hn := hide hn
                  clear hn hc47 hc hlo hhi
                  go_wp2_with fail
                  go_round
                  case rel => exact ⟨st, i + 1, by omega, rfl, by go_num, by omega, fun h => ⟨by omega, unhide Hn⟩, fun h => by omega⟩
                  case measure => simp [intOf]; omega
        · have he : i = p.size + 1 := by omega
          have Hend := hide (hend he)
          have c1 : decide ((i : Int) ≤ (p.size : Int)) = false := by simp; omega
          clear hsc hend he
          go_wp2_with fail
          go_ret
          rw [unhide Hg, unhide Hend]
          exact ⟨rfl, rfl⟩
end Go.Proofs.Qxb6500417aGreat
