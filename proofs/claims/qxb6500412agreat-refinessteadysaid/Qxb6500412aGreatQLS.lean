/-
  OWN WORK. QUERY's LAW: rows spoilt (as XL1, for a seat without txnlaw).
-/
import Derived.Test.Qxb6500412aGreatYLQ
import Derived.Test.Qxb6500412aGreatX12
namespace Go.Proofs.Qxb6500412aGreat
open Go.RowKit Go.PlainAid
set_option linter.unusedSimpArgs false
set_option linter.unusedVariables false

/-- The rows from i on are as they were. -/
structure SaL (lo : Nat) (Z : List (Value × List Vl)) (w : World) (g : Nat) (i : Nat) (wr : World) : Prop where
  has : ∃ cur : Array Value, Has wr g cur 95 ∧ (∀ j z, i ≤ j → Z[j]? = some z → cur[j]? = some z.1 ∧ OwnV wr z.1 z.2 ∧ ∀ k, z.1.ownBlock = some k → lo ≤ k)
  ap : ApZ Z
  gl : lo ≤ g
  on : Only (fun k => k = g ∨ ∃ z ∈ Z, z.1.ownBlock = some k) w wr
section
variable {lo : Nat} {Z : List (Value × List Vl)} {w wr w1 : World} {g i : Nat} {v : Value}
theorem SaL.row (h : SaL lo Z w g i wr) {z : Value × List Vl} (hz : Z[i]? = some z) : wr.cell? ⟨g, i, none⟩ = some z.1 ∧ OwnV wr z.1 z.2 ∧ ∀ {w1 : World}, Only (fun k => z.1.ownBlock = some k) wr w1 → w1.cell? ⟨g, i, none⟩ = some z.1 ∧ w1.frozen? ⟨g, i, none⟩ = false ∧ SaL lo Z w g (i + 1) (w1.setCell ⟨g, i, none⟩ (.slice none 0 0)) := by
  obtain ⟨⟨cur, h2, h3⟩, hap, h5, h6⟩ := h
  obtain ⟨hu, hO, hlo⟩ := h3 i z (Nat.le_refl _) hz
  refine ⟨by rw [h2.cell]; exact hu, hO, ?_⟩
  intro w1 o1
  have ng : ∀ k, z.1.ownBlock = some k → k ≠ g := fun k hk => ownsRow_ne hO h2 (by decide) k hk
  have k1 := h2.keep o1 (fun e => ng g e rfl)
  have og : Only (fun k => k = g) w1 (w1.setCell ⟨g, i, none⟩ (.slice none 0 0)) := only1 _ _
  refine ⟨by rw [k1.cell]; exact hu, k1.free i, ⟨⟨_, k1.setCell i (.slice none 0 0), fun j z' hj hz' => ?_⟩, hap, h5, (h6.trans o1 (fun k _ e => .inr ⟨z, List.mem_of_getElem? hz, e⟩)).trans og (fun k _ e => .inl e)⟩⟩
  obtain ⟨hu', hO', hlo'⟩ := h3 j z' (by omega) hz'
  refine ⟨by rw [Array.getElem?_setIfInBounds, if_neg (by omega)]; exact hu', ?_, hlo'⟩
  have hne : ∀ k, z'.1.ownBlock = some k → z.1.ownBlock ≠ some k := fun k hk e => by
    have l1 := List.getElem?_eq_some_iff.mp hz
    have l2 := List.getElem?_eq_some_iff.mp hz'
    have := List.pairwise_iff_getElem.mp hap i j l1.1 l2.1 (by omega) k (by rw [l1.2]; exact e)
    rw [l2.2] at this
    exact this hk
  exact (hO'.keep o1 (fun k hk e => hne k hk e)).keep og (fun k hk e => ownsRow_ne hO' h2 (by decide) k hk e)
set_option maxRecDepth 100000 in
set_option maxHeartbeats 1000000 in
theorem spoilAllL_any (h : RL lo v Z w) (h8 : Z.length ≤ 1000) (hr8 : ∀ z ∈ Z, z.2.length ≤ 1000) : Calls Tryz.prog 130 #[v] w fun e w' => e = .returned (.tuple #[]) ∧ Only (fun k => v.ownBlock = some k ∨ ∃ z ∈ Z, z.1.ownBlock = some k) w w' := by
  have HR8 := hide hr8
  clear hr8
  obtain ⟨a, cap, hv⟩ := ownsRow_shape h.own
  obtain ⟨n, hn⟩ : ∃ n, Z.length = n := ⟨_, rfl⟩
  rw [hn] at hv h8
  by_cases h0 : n = 0
  · subst h0
    subst hv
    clear h hn HR8
    go_enter Tryz.func130, Tryz.ntmps130
    go_upto_region 1 with fail
    go_loopw [2] (fun iv wr => iv = .int .i64 0 ∧ wr = w) (fun _ _ => 0)
    case atStart => exact ⟨rfl, rfl⟩
    case round =>
      obtain ⟨rfl, rfl⟩ := hrel
      go_wp2_with fail
      go_end0
      exact ⟨rfl, Only.refl _ _⟩
  obtain ⟨g, rfl⟩ : ∃ g, a = some ⟨g, 0, none⟩ := by
    have hown := h.own
    rw [hv, hn] at hown
    exact own_slice hown (by omega)
  subst hv
  have S0 : SaL lo Z w g 0 w := by
    have hown := h.own
    rw [hn] at hown
    obtain ⟨cur, h1, h2⟩ := own_cur hown
    exact ⟨⟨cur, h1, fun j z _ hz => ⟨h2 j z.1 (by rw [List.getElem?_map, hz]; rfl), (h.row z (List.mem_of_getElem? hz)).1, (h.row z (List.mem_of_getElem? hz)).2⟩⟩, h.ap, h.nb g rfl, Only.refl _ _⟩
  have HS := hide S0
  have HN := hide hn
  clear h hn S0 h0
  go_enter Tryz.func130, Tryz.ntmps130
  go_upto_region 1 with fail
  go_loopw [2] (fun iv wr => ∃ i : Nat, iv = .int .i64 i ∧ i ≤ n ∧ SaL lo Z w g i wr) (fun iv _ => n - (intOf iv).toNat)
  case atStart => exact ⟨0, rfl, Nat.zero_le _, unhide HS⟩
  case round =>
    obtain ⟨i, rfl, hi, I⟩ := hrel
    by_cases hi2 : i < n
    · have a1 : decide ((i : Int) < (n : Int)) = true := decide_eq_true (by omega)
      have a1p : (i : Int) < (n : Int) := by omega
      obtain ⟨z, hz⟩ := getE (l := Z) (i := i) (by rw [unhide HN]; exact hi2)
      obtain ⟨cu, hO, hK⟩ := I.row hz
      have CS := hide (spoil_any hO (unhide HR8 z (List.mem_of_getElem? hz)))
      have HK := hide (fun (w1 : World) (o1 : Only (fun k => z.1.ownBlock = some k) wr w1) => hK o1)
      obtain ⟨ua, uc, hus⟩ := hO.shape
      obtain ⟨rn, hrn⟩ : ∃ rn, z.2.length = rn := ⟨_, rfl⟩
      rw [hrn] at hus
      rw [hus] at cu CS HK
      clear I hO hK hz hrn hus
      go_wp2_with fail
      refine (unhide CS).mono ?_
      rintro e w2 ⟨rfl, o2⟩
      obtain ⟨d0, f0, J⟩ := unhide HK w2 o2
      have HJ := hide J
      clear J o2 HK CS cu
      go_wp2_with fail
      go_roundw
      case rel => exact ⟨i + 1, by go_num, by omega, unhide HJ⟩
      case measure => simp [intOf]; omega
    · obtain rfl : i = n := by omega
      have a1 : decide ((i : Int) < (i : Int)) = false := by simp
      have HO2 := hide (I.on.mono (T := fun k => (Value.slice (some ⟨g, 0, none⟩) i cap).ownBlock = some k ∨ ∃ z ∈ Z, z.1.ownBlock = some k) (fun k _ h => h.imp (fun e => by rw [e]; rfl) id))
      clear I
      go_wp2_with fail
      go_end0
      exact ⟨rfl, unhide HO2⟩
end
end Go.Proofs.Qxb6500412aGreat
