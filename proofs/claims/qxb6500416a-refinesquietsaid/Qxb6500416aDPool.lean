/-
  OWN WORK. THE POOL OF LINES: the chains, in plain terms; hashOf.
-/
import Derived.Test.Qxb6500416aDLcs
namespace Go.Proofs.Qxb6500416a
open Go.RowKit Go.PlainAid
set_option linter.unusedSimpArgs false
set_option linter.unusedVariables false

def hashD (d : Str) : Nat := d.foldl (fun h b => (h * 31 + b.toNat) % 4294967296) 0
def buck (d : Str) : Nat := hashD d % 8
/-- 1 + the last of the first n lines whose bucket is b; 0: none. -/
def lastB (L : List Str) (b : Nat) : Nat → Nat
  | 0 => 0
  | n + 1 => if (L[n]?.map buck) = some b then n + 1 else lastB L b n
theorem lastB_le (L : List Str) (b : Nat) : ∀ n, lastB L b n ≤ n
  | 0 => Nat.le_refl _
  | n + 1 => by
    have := lastB_le L b n
    simp only [lastB]
    split <;> omega
theorem lastB_facts (L : List Str) (b : Nat) : ∀ n, n ≤ L.length → (∀ j, lastB L b n ≤ j → j < n → (L[j]?.map buck) ≠ some b) ∧ (∀ k, lastB L b n = k + 1 → (L[k]?.map buck) = some b)
  | 0, _ => ⟨fun j _ h => by omega, fun k h => by simp [lastB] at h⟩
  | n + 1, hn => by
    obtain ⟨h1, h2⟩ := lastB_facts L b n (by omega)
    simp only [lastB]
    by_cases e : (L[n]?.map buck) = some b
    · rw [if_pos e]
      exact ⟨fun j a b => by omega, fun k hk => by have : k = n := by omega
                                                   rw [this]; exact e⟩
    · rw [if_neg e]
      refine ⟨fun j a b => ?_, h2⟩
      by_cases ej : j = n
      · rw [ej]; exact e
      · exact h1 j a (by omega)
theorem lastB_app (L M : List Str) (b : Nat) : ∀ n, n ≤ L.length → lastB (L ++ M) b n = lastB L b n
  | 0, _ => rfl
  | n + 1, hn => by
    simp only [lastB]
    rw [lastB_app L M b n (by omega), List.getElem?_append_left (by omega)]
theorem hashD_lt (d : Str) : hashD d < 4294967296 := by
  unfold hashD
  have key : ∀ (d : Str) (h : Nat), h < 4294967296 → d.foldl (fun h b => (h * 31 + b.toNat) % 4294967296) h < 4294967296 := by
    intro d
    induction d with
    | nil => intro h hh; exact hh
    | cons c r ih => intro h hh; exact ih _ (Nat.mod_lt _ (by omega))
  exact key d 0 (by omega)
theorem hashD_snoc (d : Str) (c : UInt8) : hashD (d ++ [c]) = (hashD d * 31 + c.toNat) % 4294967296 := by
  unfold hashD
  rw [List.foldl_append]
  rfl
set_option maxRecDepth 100000 in
theorem dhashOf_any (s : ByteArray) (hsz : s.size ≤ 1000000) (w : World) :
    Calls Try.prog 63 #[.string s] w fun e w' => e = .returned (.int .i64 (hashD (ls s) : Nat)) ∧ w = w' := by
  have hb := get_bt s
  go_enter Try.func63, Try.ntmps63
  go_wp2_with fail
  go_loop [3, 4] (fun hv iv => ∃ i : Nat, i ≤ s.size ∧ iv = .int .i64 i ∧ hv = .int .u32 (hashD ((ls s).take i) : Nat)) (fun _ iv => s.size - (intOf iv).toNat)
  case atStart => exact ⟨0, by omega, rfl, rfl⟩
  case round =>
    obtain ⟨i, hi, rfl, rfl⟩ := hrel
    by_cases hin : i < s.size
    · obtain ⟨c, hc, hd⟩ := ls_at s i hin
      have hil' : i < (ls s).length := by rw [ls_len]; exact hin
      have hnx : hashD ((ls s).take (i + 1)) = (hashD ((ls s).take i) * 31 + c.toNat) % 4294967296 := by
        rw [List.take_succ_eq_append_getElem hil', hashD_snoc]
        rw [List.drop_eq_getElem_cons hil'] at hd
        rw [(List.cons.inj hd).1]
      have hlt := hashD_lt ((ls s).take i)
      have a1 : decide ((i : Int) < (s.size : Int)) = true := by simp; omega
      have a2 : (i : Int) < (s.size : Int) := by omega
      have hbn := bt_nonneg s i
      have hbl := bt_le s i
      have Hnx := hide hnx
      have Hc := hide hc
      generalize hashD ((ls s).take i) = h at *
      clear hnx hd hc
      go_wp2_with fail
      go_round
      case rel => exact ⟨i + 1, by omega, by go_num, by rw [unhide Hnx, unhide Hc]; congr 1; omega⟩
      case measure => simp [intOf]; omega
    · obtain rfl : i = s.size := by omega
      have a1 : decide ((s.size : Int) < (s.size : Int)) = false := by simp
      have he : (ls s).take s.size = ls s := by rw [← ls_len]; exact List.take_length
      have hlt := hashD_lt (ls s)
      rw [he]
      have He := hide he
      clear he
      go_wp2_with fail
      go_ret
      exact ⟨rfl, rfl⟩
end Go.Proofs.Qxb6500416a
