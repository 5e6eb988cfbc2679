/-
  OWN WORK. THE TXN LAW: rows spoilt, rows and names copied.
-/
import Derived.Test.Qxb6500414aGreatXL0
namespace Go.Proofs.Qxb6500414aGreat
open Go.RowKit Go.PlainAid
set_option linter.unusedSimpArgs false
set_option linter.unusedVariables false

/-- The rows from i on are as they were. -/
structure SaL (lo : Nat) (Z : List (Value × List Vl)) (w : World) (g : Nat) (i : Nat) (wr : World) : Prop where
  has : ∃ cur : Array Value, Has wr g cur 47 ∧ (∀ j z, i ≤ j → Z[j]? = some z → cur[j]? = some z.1 ∧ OwnV wr z.1 z.2 ∧ ∀ k, z.1.ownBlock = some k → lo ≤ k)
  ap : ApZ Z
  gl : lo ≤ g
  on : Only (fun k => k = g ∨ ∃ z ∈ Z, z.1.ownBlock = some k) w wr
section
variable {lo : Nat} {Z : List (Value × List Vl)} {w wr w1 : World} {g i : Nat} {v : Value}
theorem SaL.row (h : SaL lo Z w g i wr) {z : Value × List Vl} (hz : Z[i]? = some z) : wr.cell? ⟨g, i, none⟩ = some z.1 ∧ OwnV wr z.1 z.2 ∧ ∀ {w1 : World}, Only (fun k => z.1.ownBlock = some k) wr w1 → w1.cell? ⟨g, i, none⟩ = some z.1 ∧ w1.frozen? ⟨g, i, none⟩ = false ∧ SaL lo Z w g (i + 1) (w1.setCell ⟨g, i, none⟩ (.slice none 0 0)) := by
  obtain ⟨⟨cur, h2, h3⟩, hap, h5, h6⟩ := h
  obtain ⟨hu, hO, hlo⟩ := h3 i z (Nat.le_refl _) hz
  refine ⟨by rw [h2.cell]; exact hu, hO, ?_⟩
  intro w1 o1
  have ng : ∀ k, z.1.ownBlock = some k → k ≠ g := fun k hk => ownsRow_ne hO h2 (by decide) k hk
  have k1 := h2.keep o1 (fun e => ng g e rfl)
  have og : Only (fun k => k = g) w1 (w1.setCell ⟨g, i, none⟩ (.slice none 0 0)) := only1 _ _
  refine ⟨by rw [k1.cell]; exact hu, k1.free i, ⟨⟨_, k1.setCell i (.slice none 0 0), fun j z' hj hz' => ?_⟩, hap, h5, (h6.trans o1 (fun k _ e => .inr ⟨z, List.mem_of_getElem? hz, e⟩)).trans og (fun k _ e => .inl e)⟩⟩
  obtain ⟨hu', hO', hlo'⟩ := h3 j z' (by omega) hz'
  refine ⟨by rw [Array.getElem?_setIfInBounds, if_neg (by omega)]; exact hu', ?_, hlo'⟩
  have hne : ∀ k, z'.1.ownBlock = some k → z.1.ownBlock ≠ some k := fun k hk e => by
    have l1 := List.getElem?_eq_some_iff.mp hz
    have l2 := List.getElem?_eq_some_iff.mp hz'
    have := List.pairwise_iff_getElem.mp hap i j l1.1 l2.1 (by omega) k (by rw [l1.2]; exact e)
    rw [l2.2] at this
    exact this hk
  exact (hO'.keep o1 (fun k hk e => hne k hk e)).keep og (fun k hk e => ownsRow_ne hO' h2 (by decide) k hk e)
set_option maxRecDepth 100000 in
set_option maxHeartbeats 1000000 in
theorem spoilAllL_any (h : RL lo v Z w) (h8 : Z.length ≤ 1000) (hr8 : ∀ z ∈ Z, z.2.length ≤ 1000) : Calls Tryz.prog 61 #[v] w fun e w' => e = .returned (.tuple #[]) ∧ Only (fun k => v.ownBlock = some k ∨ ∃ z ∈ Z, z.1.ownBlock = some k) w w' := by
  have HR8 := hide hr8
  clear hr8
  obtain ⟨a, cap, hv⟩ := ownsRow_shape h.own
  obtain ⟨n, hn⟩ : ∃ n, Z.length = n := ⟨_, rfl⟩
  rw [hn] at hv h8
  by_cases h0 : n = 0
  · subst h0
    subst hv
    clear h hn HR8
    go_enter Tryz.func61, Tryz.ntmps61
    go_upto_region 1 with fail
    go_loopw [2] (fun iv wr => iv = .int .i64 0 ∧ wr = w) (fun _ _ => 0)
    case atStart => exact ⟨rfl, rfl⟩
    case round =>
      obtain ⟨rfl, rfl⟩ := hrel
      go_wp2_with fail
      go_end0
      exact ⟨rfl, Only.refl _ _⟩
  obtain ⟨g, rfl⟩ : ∃ g, a = some ⟨g, 0, none⟩ := by
    have hown := h.own
    rw [hv, hn] at hown
    exact own_slice hown (by omega)
  subst hv
  have S0 : SaL lo Z w g 0 w := by
    have hown := h.own
    rw [hn] at hown
    obtain ⟨cur, h1, h2⟩ := own_cur hown
    exact ⟨⟨cur, h1, fun j z _ hz => ⟨h2 j z.1 (by rw [List.getElem?_map, hz]; rfl), (h.row z (List.mem_of_getElem? hz)).1, (h.row z (List.mem_of_getElem? hz)).2⟩⟩, h.ap, h.nb g rfl, Only.refl _ _⟩
  have HS := hide S0
  have HN := hide hn
  clear h hn S0 h0
  go_enter Tryz.func61, Tryz.ntmps61
  go_upto_region 1 with fail
  go_loopw [2] (fun iv wr => ∃ i : Nat, iv = .int .i64 i ∧ i ≤ n ∧ SaL lo Z w g i wr) (fun iv _ => n - (intOf iv).toNat)
  case atStart => exact ⟨0, rfl, Nat.zero_le _, unhide HS⟩
  case round =>
    obtain ⟨i, rfl, hi, I⟩ := hrel
    by_cases hi2 : i < n
    · have a1 : decide ((i : Int) < (n : Int)) = true := decide_eq_true (by omega)
      have a1p : (i : Int) < (n : Int) := by omega
      obtain ⟨z, hz⟩ := getE (l := Z) (i := i) (by rw [unhide HN]; exact hi2)
      obtain ⟨cu, hO, hK⟩ := I.row hz
      have CS := hide (spoil_any hO (unhide HR8 z (List.mem_of_getElem? hz)))
      have HK := hide (fun (w1 : World) (o1 : Only (fun k => z.1.ownBlock = some k) wr w1) => hK o1)
      obtain ⟨ua, uc, hus⟩ := hO.shape
      obtain ⟨rn, hrn⟩ : ∃ rn, z.2.length = rn := ⟨_, rfl⟩
      rw [hrn] at hus
      rw [hus] at cu CS HK
      clear I hO hK hz hrn hus
      go_wp2_with fail
      refine (unhide CS).mono ?_
      rintro e w2 ⟨rfl, o2⟩
      obtain ⟨d0, f0, J⟩ := unhide HK w2 o2
      have HJ := hide J
      clear J o2 HK CS cu
      go_wp2_with fail
      go_roundw
      case rel => exact ⟨i + 1, by go_num, by omega, unhide HJ⟩
      case measure => simp [intOf]; omega
    · obtain rfl : i = n := by omega
      have a1 : decide ((i : Int) < (i : Int)) = false := by simp
      have HO2 := hide (I.on.mono (T := fun k => (Value.slice (some ⟨g, 0, none⟩) i cap).ownBlock = some k ∨ ∃ z ∈ Z, z.1.ownBlock = some k) (fun k _ h => h.imp (fun e => by rw [e]; rfl) id))
      clear I
      go_wp2_with fail
      go_end0
      exact ⟨rfl, unhide HO2⟩
set_option maxRecDepth 100000 in
set_option maxHeartbeats 4000000 in
/-- CloneRows of such a list. -/
theorem cloneRowsL_any (h : RL lo v Z w) (h8 : Z.length ≤ 8) (hr3 : ∀ z ∈ Z, z.2.length ≤ 1000) : Calls Tryz.prog 60 #[v] w (CrP w (Z.map (·.2))) := by
  obtain ⟨cur0, hcs, hmk⟩ := run_make_rows w Z.length (by omega)
  have hln : (Z.map (·.2)).length = Z.length := List.length_map _
  have I0 : CrI w (Z.map (·.2)) w.heap.size [] (w.alloc (.cells cur0 47)) := ⟨Nat.zero_le _, ⟨cur0, by rw [hln]; exact hcs, Has.new w _ _, fun j hj => by simp at hj⟩, fun j u r hu => by simp at hu, fun u hu => by simp at hu, (Only.refl _ w).alloc _, Nat.le_refl _⟩
  obtain ⟨ra, rc, hrv⟩ := ownsRow_shape h.own
  have HR3 := hide hr3
  have HE := hide h
  have HI := hide I0
  obtain ⟨n, hn⟩ : ∃ n, Z.length = n := ⟨_, rfl⟩
  have HN := hide hn
  have HNr := hide (hln.trans hn)
  rw [hn] at h8 hmk hrv
  subst hrv
  clear h I0 hcs hn hr3 hln
  go_enter Tryz.func60, Tryz.ntmps60
  go_upto_region 3 with fail
  generalize w.alloc (.cells cur0 47) = w1 at *
  generalize hg : w.heap.size = g at *
  clear hmk
  have HG := hide hg
  clear hg
  go_loopw [4] (fun iv wr => ∃ us : List Value, iv = .int .i64 us.length ∧ CrI w (Z.map (·.2)) g us wr) (fun iv _ => n - (intOf iv).toNat)
  case atStart => exact ⟨[], rfl, unhide HI⟩
  case round =>
    clear HI
    obtain ⟨us, rfl, I⟩ := hrel
    have hin := I.n
    rw [unhide HNr] at hin
    by_cases hi2 : us.length < n
    · have a1 : decide ((us.length : Int) < (n : Int)) = true := decide_eq_true (by omega)
      have a1p : (us.length : Int) < (n : Int) := by omega
      obtain ⟨z, hz⟩ := getE (l := Z) (i := us.length) (by rw [unhide HN]; exact hi2)
      have hr : (Z.map (·.2))[us.length]? = some z.2 := by rw [List.getElem?_map, hz]; rfl
      have E := (unhide HE).quiet I.on
      have hown := E.own
      rw [unhide HN] at hown
      obtain ⟨rg, rfl⟩ := own_slice hown (by omega)
      have cu := World.ownsRow.cells hown (g := rg) rfl us.length z.1 (by rw [List.getElem?_map, hz]; rfl)
      rw [addr_add] at cu
      have OU := (E.row z (List.mem_of_getElem? hz)).1
      have CC := mcloneRow_any OU (unhide HR3 z (List.mem_of_getElem? hz))
      have HII := hide (And.intro I hr)
      obtain ⟨ua, uc, hus⟩ := OU.shape
      obtain ⟨rn, hrn⟩ : ∃ rn, z.2.length = rn := ⟨_, rfl⟩
      rw [hrn] at hus
      rw [hus, hrn] at CC
      rw [hus] at cu
      have CC := hide CC
      clear I E OU hr hown hz hus
      obtain ⟨i, hie⟩ : ∃ i, us.length = i := ⟨_, rfl⟩
      have HIE := hide hie
      rw [hie] at a1 a1p cu hin hi2 ⊢
      clear hie
      go_wp2_with fail
      refine (unhide CC).mono ?_
      rintro x w3 ⟨zb, rfl, O3, hzb, o3⟩
      have I3 := (unhide HII).1.quiet o3
      obtain ⟨cur, h1, h2, h3⟩ := I3.has
      have d0 : ∃ y, w3.cell? ⟨g, i, none⟩ = some y := ⟨cur[i]'(by rw [h1, unhide HNr]; exact hi2), by rw [h2.cell]; exact Array.getElem?_eq_getElem _⟩
      obtain ⟨y0, d0⟩ := d0
      have f0 := h2.free i
      have S3 := I3.step (u := .slice (some ⟨zb, 0, none⟩) rn rn) (unhide HII).2 O3 (fun k hk => by simp [Value.ownBlock] at hk; have := (unhide HII).1.on.size; omega)
      rw [unhide HIE] at S3
      have HS := hide S3
      clear CC O3 hzb o3 I3 h1 h2 h3 S3 cu HII hrn
      go_wp2_with fail
      go_roundw
      case rel => exact ⟨us ++ [.slice (some ⟨zb, 0, none⟩) rn rn], by rw [List.length_append, List.length_singleton, unhide HIE]; go_num, unhide HS⟩
      case measure => simp [intOf]; omega
    · have hlen : us.length = n := by omega
      have a1 : decide ((us.length : Int) < (n : Int)) = false := decide_eq_false (by omega)
      have D := I.done (by rw [unhide HNr]; exact hlen) (by rw [unhide HNr]; exact h8)
      have HP := hide (show CrP w (Z.map (·.2)) (.returned (.slice (some ⟨g, 0, none⟩) n n)) wr from ⟨g, us, by rw [unhide HNr], by rw [unhide HNr]; exact hlen, by have D2 := D; rw [hlen] at D2; rw [unhide HNr, hlen]; exact D2, I.row, I.gl, I.fr, I.on⟩)
      clear I D
      go_wp2_with fail
      go_ret
      exact unhide HP
end
end Go.Proofs.Qxb6500414aGreat
