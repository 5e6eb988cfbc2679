/-
  OWN WORK. THE OBJECT STORE's CHECK: soundBuckets, soundSuper.
-/
import Derived.Test.Qxb6500419aOOpen
namespace Go.Proofs.Qxb6500419a
open Go.RowKit
set_option linter.unusedSimpArgs false
set_option linter.unusedVariables false

def sumLen (bk : Nat → List Nat) : Nat → Nat
  | 0 => 0
  | b + 1 => sumLen bk b + (bk b).length
def flatB (bk : Nat → List Nat) : Nat → List Nat
  | 0 => []
  | b + 1 => flatB bk b ++ bk b
theorem flatB_len (bk : Nat → List Nat) : ∀ b, (flatB bk b).length = sumLen bk b
  | 0 => rfl
  | b + 1 => by unfold flatB sumLen; rw [List.length_append, flatB_len bk b]
theorem flatB_mem (bk : Nat → List Nat) (a : Nat) : ∀ b, a ∈ flatB bk b ↔ ∃ c, c < b ∧ a ∈ bk c
  | 0 => by unfold flatB; simp
  | b + 1 => by
    unfold flatB
    rw [List.mem_append, flatB_mem bk a b]
    constructor
    · rintro (⟨c, hc, hm⟩ | hm)
      · exact ⟨c, by omega, hm⟩
      · exact ⟨b, by omega, hm⟩
    · rintro ⟨c, hc, hm⟩
      by_cases e : c = b
      · subst e; exact .inr hm
      · exact .inl ⟨c, by omega, hm⟩
theorem cntTo_filter (p : Nat → Bool) : ∀ n, cntTo p n = ((List.range n).filter p).length
  | 0 => rfl
  | n + 1 => by
    unfold cntTo
    rw [cntTo_filter p n, List.range_succ, List.filter_append, List.length_append]
    cases h : p n <;> simp [h]
def isLive (ob : Nat → Ob) (i : Nat) : Bool := i != 0 && liveO (ob i)
def cntL (ob : Nat → Ob) : Nat := cntTo (isLive ob) 49

section
variable {w : World} {s d : Nat} {tab : Nat → Ent} {hd us : Nat → Nat} {nf rt : Nat} {D B : Nat → Nat} {recs : List Rec} {F : Nat → Prop} {ob : Nat → Ob} {bk : Nat → List Nat} {po : Nat → Ob}

theorem Bucks.count (h : Bucks tab hd ob bk) : sumLen bk 8 = cntL ob := by
  unfold cntL
  rw [← flatB_len, cntTo_filter]
  have hn : ∀ b, b ≤ 8 → (flatB bk b).Nodup := by
    intro b
    induction b with
    | zero => intro _; exact List.nodup_nil
    | succ b ih =>
      intro hb
      unfold flatB
      rw [List.nodup_append]
      refine ⟨ih (by omega), (h.link b (by omega)).nodup, ?_⟩
      intro a ha c hc e
      subst e
      rw [flatB_mem] at ha
      obtain ⟨c, hcb, hm⟩ := ha
      have h1 := ((h.mem c (by omega) a).1 hm).2.2
      have h2 := ((h.mem b (by omega) a).1 hc).2.2
      omega
  have hm : ∀ a, a ∈ flatB bk 8 ↔ a ∈ (List.range 49).filter (isLive ob) := by
    intro a
    rw [flatB_mem, List.mem_filter, List.mem_range]
    constructor
    · rintro ⟨c, hc, hm⟩
      obtain ⟨h1, h2, _⟩ := (h.mem c hc a).1 hm
      have := h1.1
      have := h1.2
      refine ⟨by omega, ?_⟩
      unfold isLive
      simp [h2]; omega
    · rintro ⟨h1, h2⟩
      unfold isLive at h2
      have h3 : a ≠ 0 := by intro e; rw [e] at h2; simp at h2
      have h4 : liveO (ob a) = true := by simpa [h3] using h2
      have hin : In a := ⟨by omega, by omega⟩
      exact ⟨(tab a).hash % 8, Nat.mod_lt _ (by omega), (h.mem _ (Nat.mod_lt _ (by omega)) a).2 ⟨hin, h4, rfl⟩⟩
  have h1 := nodup_sub_le _ _ (hn 8 (by omega)) (fun a ha => (hm a).1 ha)
  have h2 := nodup_sub_le _ _ (List.nodup_range.sublist List.filter_sublist) (fun a ha => (hm a).2 ha)
  omega
theorem cntL_le (ob : Nat → Ob) : cntL ob ≤ 49 := cntTo_le _ 49
theorem sumLen_le (h : Bucks tab hd ob bk) : ∀ b, b ≤ 8 → sumLen bk b ≤ 48 * b := by
  intro b
  induction b with
  | zero => intro _; simp [sumLen]
  | succ b ih =>
    intro hb
    unfold sumLen
    have := ih (by omega)
    have := (h.link b (by omega)).len
    omega

set_option maxRecDepth 100000 in
set_option maxHeartbeats 4000000 in
theorem soundBuckets_any (hs : SAt w s d tab hd us nf rt) (hr : Rows D tab us nf ob) (hb : Bucks tab hd ob bk) (nl : Nat) (hnl : nl = cntL ob) :
    Calls Try.prog 46 #[.pointer (some ⟨s, 0, none⟩), .int .i64 nl] w fun e w' => e = .returned (.bool true) ∧ w = w' := by
  have hsum := hb.count
  have hle := sumLen_le hb
  have Hr := hide hr
  have Hb := hide hb
  have HS := hide hs
  have Hnl := hide hnl
  clear hr hb hs hnl
  go_enter Try.func46, Try.ntmps46
  go_wp2_with fail
  go_loop [5, 6] (fun hv bv => ∃ b : Nat, b ≤ 8 ∧ bv = .int .i64 b ∧ hv = .int .i64 (sumLen bk b : Nat)) (fun _ bv => (8 - intOf bv).toNat)
  case atStart => exact ⟨0, by omega, rfl, rfl⟩
  case round =>
    obtain ⟨b, hb8, rfl, rfl⟩ := hrel
    by_cases hb : b < 8
    · have hl := (unhide Hb).link b hb
      have hmem := (unhide Hb).mem b hb
      have c1 := ((unhide HS).head b hb).1
      rw [hl.head] at c1
      have a1 : decide ((b : Int) < 8) = true := by simp; omega
      have a2 : (b : Int) < 8 := by omega
      have hlen := hl.len
      have hsl := hle b hb8
      have Hl := hide hl
      have Hm := hide hmem
      have hS : sumLen bk (b + 1) = sumLen bk b + (bk b).length := rfl
      have HSum := hide hS
      clear hl hmem hsum hle hS
      generalize bk b = l at *
      generalize sumLen bk b = sb at *
      go_wp2_with fail
      go_loop [5, 7, 8] (fun hv av iv => ∃ i : Nat, i ≤ l.length ∧ hv = .int .i64 ((sb + i : Nat) : Int) ∧ av = .int .i64 (l.getD i 0 : Nat) ∧ iv = .int .i64 i) (fun _ _ iv => (48 - intOf iv).toNat)
      case atStart => exact ⟨0, by omega, rfl, rfl, rfl⟩
      case round =>
        clear c1
        obtain ⟨i, hi, rfl, rfl, rfl⟩ := hrel
        by_cases hil : i < l.length
        · have hm := getD_mem hil
          obtain ⟨hin, hlv, hhb⟩ := ((unhide Hm) _).1 hm
          have hnx := (unhide Hl).next i hil
          have hH := (unhide Hr).held _ hin (liveO_ne hlv)
          have hhlt := hH.hlt
          have m1 := hin.1
          have m2 := hin.2
          have z4 := ((unhide HS).ent (l.getD i 0) 4 (by omega) (by omega)).1
          have z5 := ((unhide HS).ent (l.getD i 0) 5 (by omega) (by omega)).1
          simp only [entCell] at z4 z5
          rw [hnx] at z5
          have C1 := live_any (unhide HS) (unhide Hr) (l.getD i 0 : Nat)
          rw [liveI_nat ob _ hin, hlv] at C1
          have C1 := hide C1
          have C2 := obucket_any (tab (l.getD i 0)).hash hhlt w
          rw [hhb] at C2
          have C2 := hide C2
          clear hH hnx hin hlv hm hhb
          generalize l.getD i 0 = a at *
          generalize (tab a).hash = hs_ at *
          generalize hnn : l.getD (i + 1) 0 = a' at *
          have Hnn := hide hnn
          clear hnn
          have b0 : ((a : Int) != 0) = true := by simp; omega
          have b1 : decide (48 ≤ (i : Int)) = false := by simp; omega
          have b2 : decide ((a : Int) < 1) = false := by simp; omega
          have b3 : decide (48 < (a : Int)) = false := by simp; omega
          have b4 : (a : Int) < 49 := by omega
          have b5 : ((b : Int) != (b : Int)) = false := by simp
          go_wp2_with fail
          refine (unhide C1).mono ?_
          rintro e w1 ⟨rfl, rfl⟩
          go_wp2_with fail
          refine (unhide C2).mono ?_
          rintro e w1 ⟨rfl, rfl⟩
          go_wp2_with fail
          go_round
          case rel => exact ⟨i + 1, by omega, by go_num, by rw [unhide Hnn], by go_num⟩
          case measure => simp [intOf]; omega
        · obtain rfl : i = l.length := by omega
          have hz : l.getD l.length 0 = 0 := getD_out (by omega)
          rw [hz]
          clear hz
          generalize l.length = ll at *
          go_wp2_with fail
          go_round
          case rel => exact ⟨b + 1, by omega, by go_num, by rw [unhide HSum]⟩
          case measure => simp [intOf]; omega
    · obtain rfl : b = 8 := by omega
      rw [hsum, ← unhide Hnl]
      have e1 : ((nl : Int) == (nl : Int)) = true := by simp
      clear hle
      go_wp2_with fail
      go_ret
      exact ⟨by first | exact rfl | simp, rfl⟩

set_option maxRecDepth 100000 in
set_option maxHeartbeats 4000000 in
theorem soundSuper_any (hs : SAt w s d tab hd us nf rt) (hv : DevAt w d D B recs F) (hr : Rows D tab us nf ob) (hsu : Super D rt ob) :
    Calls Try.prog 45 #[.pointer (some ⟨s, 0, none⟩)] w fun e w' => e = .returned (.bool true) ∧ Only (fun _ => False) w w' := by
  have C1 := hide (oblock_any hs hv 0 (by omega))
  have hD0 : ∀ j, blkF D 0 j = D j := fun j => by unfold blkF; simp
  have Hr := hide hr
  have Hsu := hide hsu
  have HD0 := hide hD0
  go_enter Try.func45, Try.ntmps45
  go_wp2_with fail
  refine (unhide C1).mono ?_
  rintro e w1 ⟨rfl, hg1, ho1⟩
  have hs1 := hs.keep ho1 (fun h => h)
  have q0 := hg1.cell 0
  rw [u8_get _ _ _ (by omega), hD0, hsu.root0] at q0
  have c7 := hs1.root.1
  have hrt := hsu.root1
  have r256 : (rt : Int) < 256 := by omega
  have r1 : ((rt : Int) != (rt : Int)) = false := by simp
  have HS1 := hide hs1
  have HG1 := hide hg1
  have Ho1 := hide ho1
  generalize w.heap.size = g at *
  clear C1 hs hg1 hs1 ho1 hD0
  by_cases hr0 : rt = 0
  · have b0 : ((rt : Int) != 0) = false := by simp; omega
    go_wp2_with fail
    go_quiet (fail)
    have HS : Hid (SAt (w1.drewN nq) s d tab hd us nf rt) := hide ((unhide HS1).keep ((Only.refl (fun _ => False) w1).drewO nq) (fun h => h))
    have HG : Hid (Has (w1.drewN nq) g (tabV 64 (u8f (blkF D 0))) 5) := hide ((unhide HG1).keep ((Only.refl (fun _ => False) w1).drewO nq) (fun h => h))
    have Ho : Hid (Only (fun _ => False) w (w1.drewN nq)) := hide ((unhide Ho1).drewO nq)
    have c7' := (unhide HS).root.1
    clear HS1 HG1 Ho1 c7 q0
    generalize w1.drewN nq = wQ at *

    go_wp2_with fail
    go_loop [4] (fun kv => ∃ k : Nat, 1 ≤ k ∧ k ≤ 64 ∧ kv = .int .i64 k) (fun kv => (64 - intOf kv).toNat)
    case atStart => exact ⟨1, by omega, by omega, rfl⟩
    case round =>
      obtain ⟨k, hk1, hk, rfl⟩ := hrel
      by_cases hk6 : k < 64
      · have a1 : decide ((k : Int) < 64) = true := by simp; omega
        have a2 : (k : Int) < 64 := by omega
        have q := (unhide HG).cell k
        rw [u8_get _ _ _ (by omega), unhide HD0 k] at q
        by_cases h48 : k ≤ 48
        · have hin : In k := ⟨hk1, h48⟩
          have b1 : decide ((k : Int) ≤ 48) = true := by simp; omega
          have b2 : (k : Int) < 49 := by omega
          have c0 := ((unhide HS).state k (by omega)).1
          have c3 := ((unhide HS).ent k 3 (by omega) (by omega)).1
          simp only [entCell] at c3
          rw [(unhide Hr).st k hin] at c0
          rw [(unhide Hsu).row k hin] at q
          have hle3 := (unhide Hr).le3 k hin
          have hfi : (ob k).st ≠ 0 → (tab k).first = (ob k).ch.getD 0 0 ∧ (ob k).ch.getD 0 0 < 145 := fun h0 => ⟨((unhide Hr).held k hin h0).first, ((unhide Hr).held k hin h0).lies.nxt 0⟩
          unfold lastO at q
          by_cases e2 : (ob k).st = 2
          · rw [(hfi (by omega)).1] at c3
            have f5 := (hfi (by omega)).2
            rw [e2] at c0 q
            have q' : wQ.cell? ⟨g, k, none⟩ = some (.int .u8 (((ob k).ch.getD 0 0 : Nat) : Int)) := q
            clear q hfi
            generalize (ob k).ch.getD 0 0 = fb at *
            have f6 : (fb : Int) < 256 := by omega
            have f7 : ((fb : Int) != (fb : Int)) = false := by simp
            go_wp2_with fail
            go_round
            case rel => exact ⟨k + 1, by omega, by omega, by go_num⟩
            case measure => simp [intOf]; omega
          · by_cases e3 : (ob k).st = 3
            · rw [(hfi (by omega)).1] at c3
              have f5 := (hfi (by omega)).2
              rw [e3] at c0 q
              have q' : wQ.cell? ⟨g, k, none⟩ = some (.int .u8 (((ob k).ch.getD 0 0 : Nat) : Int)) := q
              clear q hfi
              generalize (ob k).ch.getD 0 0 = fb at *
              have f6 : (fb : Int) < 256 := by omega
              have f7 : ((fb : Int) != (fb : Int)) = false := by simp
              go_wp2_with fail
              go_round
              case rel => exact ⟨k + 1, by omega, by omega, by go_num⟩
              case measure => simp [intOf]; omega
            · have hlz : ((ob k).st == 2 || (ob k).st == 3) = false := by simp [e2, e3]
              rw [hlz] at q
              have q' : wQ.cell? ⟨g, k, none⟩ = some (.int .u8 0) := q
              clear q hfi hlz
              generalize (ob k).st = st at *
              have g2 : ((st : Int) == 2) = false := ne_intO (by omega)
              have g3 : ((st : Int) == 3) = false := ne_intO (by omega)
              go_wp2_with fail
              go_round
              case rel => exact ⟨k + 1, by omega, by omega, by go_num⟩
              case measure => simp [intOf]; omega
        · have b1 : decide ((k : Int) ≤ 48) = false := by simp; omega
          rw [(unhide Hsu).rest k (by omega) hk6] at q
          go_wp2_with fail
          go_round
          case rel => exact ⟨k + 1, by omega, by omega, by go_num⟩
          case measure => simp [intOf]; omega
      · obtain rfl : k = 64 := by omega
        go_wp2_with fail
        go_ret
        exact ⟨rfl, unhide Ho⟩
  · have hin : In rt := ⟨by omega, hrt⟩
    have hla := hsu.root2 hr0
    have b0 : ((rt : Int) != 0) = true := by simp; omega
    have b1 : decide ((rt : Int) < 1) = false := by simp; omega
    have b2 : decide (48 < (rt : Int)) = false := by simp; omega
    have b3 : (rt : Int) < 49 := by omega
    unfold lastO at hla
    by_cases e2 : (ob rt).st = 2
    · go_wp2_with fail
      go_quiet (fail)
      have HS2 : Hid (SAt (w1.drewN nq) s d tab hd us nf rt) := hide ((unhide HS1).keep ((Only.refl (fun _ => False) w1).drewO nq) (fun h => h))
      have HG2 : Hid (Has (w1.drewN nq) g (tabV 64 (u8f (blkF D 0))) 5) := hide ((unhide HG1).keep ((Only.refl (fun _ => False) w1).drewO nq) (fun h => h))
      have Ho2 : Hid (Only (fun _ => False) w (w1.drewN nq)) := hide ((unhide Ho1).drewO nq)
      have c7' := (unhide HS2).root.1
      have cs := ((unhide HS2).state rt (by omega)).1
      rw [hr.st rt hin, e2] at cs
      clear HS1 HG1 Ho1 c7 q0
      generalize w1.drewN nq = w2 at *
      go_wp2_with fail
      go_quiet (fail)
      have HS : Hid (SAt (w2.drewN nq) s d tab hd us nf rt) := hide ((unhide HS2).keep ((Only.refl (fun _ => False) w2).drewO nq) (fun h => h))
      have HG : Hid (Has (w2.drewN nq) g (tabV 64 (u8f (blkF D 0))) 5) := hide ((unhide HG2).keep ((Only.refl (fun _ => False) w2).drewO nq) (fun h => h))
      have Ho : Hid (Only (fun _ => False) w (w2.drewN nq)) := hide ((unhide Ho2).drewO nq)
      clear HS2 HG2 Ho2 cs c7'
      generalize w2.drewN nq = wQ at *

      go_wp2_with fail
      go_loop [4] (fun kv => ∃ k : Nat, 1 ≤ k ∧ k ≤ 64 ∧ kv = .int .i64 k) (fun kv => (64 - intOf kv).toNat)
      case atStart => exact ⟨1, by omega, by omega, rfl⟩
      case round =>
        obtain ⟨k, hk1, hk, rfl⟩ := hrel
        by_cases hk6 : k < 64
        · have a1 : decide ((k : Int) < 64) = true := by simp; omega
          have a2 : (k : Int) < 64 := by omega
          have q := (unhide HG).cell k
          rw [u8_get _ _ _ (by omega), unhide HD0 k] at q
          by_cases h48 : k ≤ 48
          · have hin : In k := ⟨hk1, h48⟩
            have b1 : decide ((k : Int) ≤ 48) = true := by simp; omega
            have b2 : (k : Int) < 49 := by omega
            have c0 := ((unhide HS).state k (by omega)).1
            have c3 := ((unhide HS).ent k 3 (by omega) (by omega)).1
            simp only [entCell] at c3
            rw [(unhide Hr).st k hin] at c0
            rw [(unhide Hsu).row k hin] at q
            have hle3 := (unhide Hr).le3 k hin
            have hfi : (ob k).st ≠ 0 → (tab k).first = (ob k).ch.getD 0 0 ∧ (ob k).ch.getD 0 0 < 145 := fun h0 => ⟨((unhide Hr).held k hin h0).first, ((unhide Hr).held k hin h0).lies.nxt 0⟩
            unfold lastO at q
            by_cases e2 : (ob k).st = 2
            · rw [(hfi (by omega)).1] at c3
              have f5 := (hfi (by omega)).2
              rw [e2] at c0 q
              have q' : wQ.cell? ⟨g, k, none⟩ = some (.int .u8 (((ob k).ch.getD 0 0 : Nat) : Int)) := q
              clear q hfi
              generalize (ob k).ch.getD 0 0 = fb at *
              have f6 : (fb : Int) < 256 := by omega
              have f7 : ((fb : Int) != (fb : Int)) = false := by simp
              go_wp2_with fail
              go_round
              case rel => exact ⟨k + 1, by omega, by omega, by go_num⟩
              case measure => simp [intOf]; omega
            · by_cases e3 : (ob k).st = 3
              · rw [(hfi (by omega)).1] at c3
                have f5 := (hfi (by omega)).2
                rw [e3] at c0 q
                have q' : wQ.cell? ⟨g, k, none⟩ = some (.int .u8 (((ob k).ch.getD 0 0 : Nat) : Int)) := q
                clear q hfi
                generalize (ob k).ch.getD 0 0 = fb at *
                have f6 : (fb : Int) < 256 := by omega
                have f7 : ((fb : Int) != (fb : Int)) = false := by simp
                go_wp2_with fail
                go_round
                case rel => exact ⟨k + 1, by omega, by omega, by go_num⟩
                case measure => simp [intOf]; omega
              · have hlz : ((ob k).st == 2 || (ob k).st == 3) = false := by simp [e2, e3]
                rw [hlz] at q
                have q' : wQ.cell? ⟨g, k, none⟩ = some (.int .u8 0) := q
                clear q hfi hlz
                generalize (ob k).st = st at *
                have g2 : ((st : Int) == 2) = false := ne_intO (by omega)
                have g3 : ((st : Int) == 3) = false := ne_intO (by omega)
                go_wp2_with fail
                go_round
                case rel => exact ⟨k + 1, by omega, by omega, by go_num⟩
                case measure => simp [intOf]; omega
          · have b1 : decide ((k : Int) ≤ 48) = false := by simp; omega
            rw [(unhide Hsu).rest k (by omega) hk6] at q
            go_wp2_with fail
            go_round
            case rel => exact ⟨k + 1, by omega, by omega, by go_num⟩
            case measure => simp [intOf]; omega
        · obtain rfl : k = 64 := by omega
          go_wp2_with fail
          go_ret
          exact ⟨rfl, unhide Ho⟩
    · have e3 : (ob rt).st = 3 := by simpa [e2] using hla
      go_wp2_with fail
      go_quiet (fail)
      have HS2 : Hid (SAt (w1.drewN nq) s d tab hd us nf rt) := hide ((unhide HS1).keep ((Only.refl (fun _ => False) w1).drewO nq) (fun h => h))
      have HG2 : Hid (Has (w1.drewN nq) g (tabV 64 (u8f (blkF D 0))) 5) := hide ((unhide HG1).keep ((Only.refl (fun _ => False) w1).drewO nq) (fun h => h))
      have Ho2 : Hid (Only (fun _ => False) w (w1.drewN nq)) := hide ((unhide Ho1).drewO nq)
      have c7' := (unhide HS2).root.1
      have cs := ((unhide HS2).state rt (by omega)).1
      rw [hr.st rt hin, e3] at cs
      clear HS1 HG1 Ho1 c7 q0
      generalize w1.drewN nq = w2 at *
      go_wp2_with fail
      go_quiet (fail)
      have HS : Hid (SAt (w2.drewN nq) s d tab hd us nf rt) := hide ((unhide HS2).keep ((Only.refl (fun _ => False) w2).drewO nq) (fun h => h))
      have HG : Hid (Has (w2.drewN nq) g (tabV 64 (u8f (blkF D 0))) 5) := hide ((unhide HG2).keep ((Only.refl (fun _ => False) w2).drewO nq) (fun h => h))
      have Ho : Hid (Only (fun _ => False) w (w2.drewN nq)) := hide ((unhide Ho2).drewO nq)
      clear HS2 HG2 Ho2 cs c7'
      generalize w2.drewN nq = wQ at *

      go_wp2_with fail
      go_loop [4] (fun kv => ∃ k : Nat, 1 ≤ k ∧ k ≤ 64 ∧ kv = .int .i64 k) (fun kv => (64 - intOf kv).toNat)
      case atStart => exact ⟨1, by omega, by omega, rfl⟩
      case round =>
        obtain ⟨k, hk1, hk, rfl⟩ := hrel
        by_cases hk6 : k < 64
        · have a1 : decide ((k : Int) < 64) = true := by simp; omega
          have a2 : (k : Int) < 64 := by omega
          have q := (unhide HG).cell k
          rw [u8_get _ _ _ (by omega), unhide HD0 k] at q
          by_cases h48 : k ≤ 48
          · have hin : In k := ⟨hk1, h48⟩
            have b1 : decide ((k : Int) ≤ 48) = true := by simp; omega
            have b2 : (k : Int) < 49 := by omega
            have c0 := ((unhide HS).state k (by omega)).1
            have c3 := ((unhide HS).ent k 3 (by omega) (by omega)).1
            simp only [entCell] at c3
            rw [(unhide Hr).st k hin] at c0
            rw [(unhide Hsu).row k hin] at q
            have hle3 := (unhide Hr).le3 k hin
            have hfi : (ob k).st ≠ 0 → (tab k).first = (ob k).ch.getD 0 0 ∧ (ob k).ch.getD 0 0 < 145 := fun h0 => ⟨((unhide Hr).held k hin h0).first, ((unhide Hr).held k hin h0).lies.nxt 0⟩
            unfold lastO at q
            by_cases e2 : (ob k).st = 2
            · rw [(hfi (by omega)).1] at c3
              have f5 := (hfi (by omega)).2
              rw [e2] at c0 q
              have q' : wQ.cell? ⟨g, k, none⟩ = some (.int .u8 (((ob k).ch.getD 0 0 : Nat) : Int)) := q
              clear q hfi
              generalize (ob k).ch.getD 0 0 = fb at *
              have f6 : (fb : Int) < 256 := by omega
              have f7 : ((fb : Int) != (fb : Int)) = false := by simp
              go_wp2_with fail
              go_round
              case rel => exact ⟨k + 1, by omega, by omega, by go_num⟩
              case measure => simp [intOf]; omega
            · by_cases e3 : (ob k).st = 3
              · rw [(hfi (by omega)).1] at c3
                have f5 := (hfi (by omega)).2
                rw [e3] at c0 q
                have q' : wQ.cell? ⟨g, k, none⟩ = some (.int .u8 (((ob k).ch.getD 0 0 : Nat) : Int)) := q
                clear q hfi
                generalize (ob k).ch.getD 0 0 = fb at *
                have f6 : (fb : Int) < 256 := by omega
                have f7 : ((fb : Int) != (fb : Int)) = false := by simp
                go_wp2_with fail
                go_round
                case rel => exact ⟨k + 1, by omega, by omega, by go_num⟩
                case measure => simp [intOf]; omega
              · have hlz : ((ob k).st == 2 || (ob k).st == 3) = false := by simp [e2, e3]
                rw [hlz] at q
                have q' : wQ.cell? ⟨g, k, none⟩ = some (.int .u8 0) := q
                clear q hfi hlz
                generalize (ob k).st = st at *
                have g2 : ((st : Int) == 2) = false := ne_intO (by omega)
                have g3 : ((st : Int) == 3) = false := ne_intO (by omega)
                go_wp2_with fail
                go_round
                case rel => exact ⟨k + 1, by omega, by omega, by go_num⟩
                case measure => simp [intOf]; omega
          · have b1 : decide ((k : Int) ≤ 48) = false := by simp; omega
            rw [(unhide Hsu).rest k (by omega) hk6] at q
            go_wp2_with fail
            go_round
            case rel => exact ⟨k + 1, by omega, by omega, by go_num⟩
            case measure => simp [intOf]; omega
        · obtain rfl : k = 64 := by omega
          go_wp2_with fail
          go_ret
          exact ⟨rfl, unhide Ho⟩
end
end Go.Proofs.Qxb6500419a
