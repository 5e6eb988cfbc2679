/-
  OWN WORK. THE TABLE LAW's MODEL: tables cloned.
-/
import Derived.Test.Qxb6500412aGreatMM1
namespace Go.Proofs.Qxb6500412aGreat
open Go.RowKit Go.PlainAid
set_option linter.unusedSimpArgs false
set_option linter.unusedVariables false

/-- The first rows are cloned into block g. -/
structure CrI (w : World) (rows : List (List Vl)) (g : Nat) (us : List Value) (wr : World) : Prop where
  n : us.length ≤ rows.length
  has : ∃ cur : Array Value, cur.size = rows.length ∧ Has wr g cur 95 ∧ ∀ j, j < us.length → cur[j]? = us[j]?
  row : ∀ (j : Nat) (u : Value) (r : List Vl), us[j]? = some u → rows[j]? = some r → OwnV wr u r
  fr : ∀ u ∈ us, ∀ k, u.ownBlock = some k → w.heap.size ≤ k
  on : Only (fun _ => False) w wr
  gl : w.heap.size ≤ g
section
variable {w wr w' : World} {rows : List (List Vl)} {g : Nat} {us : List Value}
theorem CrI.quiet (h : CrI w rows g us wr) (ho : Only (fun _ => False) wr w') : CrI w rows g us w' := by
  obtain ⟨cur, h1, h2, h3⟩ := h.has
  exact ⟨h.n, ⟨cur, h1, h2.keep ho (fun e => e), h3⟩, fun j u r hu hr => (h.row j u r hu hr).keep ho (fun _ _ e => e), h.fr, h.on.trans ho (fun _ _ e => e), h.gl⟩
theorem CrI.step (h : CrI w rows g us wr) {r : List Vl} {u : Value} (hr : rows[us.length]? = some r) (O : OwnV wr u r) (hf : ∀ k, u.ownBlock = some k → w.heap.size ≤ k) : CrI w rows g (us ++ [u]) (wr.setCell ⟨g, us.length, none⟩ u) := by
  obtain ⟨cur, h1, h2, h3⟩ := h.has
  have hi := (List.getElem?_eq_some_iff.mp hr).1
  have oo : Only (fun k => k = g) wr (wr.setCell ⟨g, us.length, none⟩ u) := only1 _ _
  have kp : ∀ {x : Value} {y : List Vl}, OwnV wr x y → OwnV (wr.setCell ⟨g, us.length, none⟩ u) x y := fun O => O.keep oo (fun k hk e => ownsRow_ne O h2 (by decide) k hk e)
  refine ⟨by simp; omega, ⟨_, by simp [h1], h2.setCell _ _, fun j hj => ?_⟩, fun j x y hx hy => ?_, fun x hx k hk => ?_, h.on.fresh oo h.gl, h.gl⟩
  · rw [List.length_append, List.length_singleton] at hj
    rw [Array.getElem?_setIfInBounds]
    by_cases c : us.length = j
    · rw [if_pos c, if_pos (by omega), ← c]; simp
    · rw [if_neg c, h3 j (by omega), List.getElem?_append_left (by omega)]
  · by_cases c : j < us.length
    · rw [List.getElem?_append_left c] at hx
      exact kp (h.row j x y hx hy)
    · rw [List.getElem?_append_right (by omega)] at hx
      obtain ⟨p, hp⟩ : ∃ p, j - us.length = p := ⟨_, rfl⟩
      rw [hp] at hx
      cases p with
      | zero =>
        obtain rfl : j = us.length := by omega
        rw [hr] at hy
        cases hx
        cases hy
        exact kp O
      | succ p => simp at hx
  · rcases List.mem_append.mp hx with hx | hx
    · exact h.fr x hx k hk
    · obtain rfl : x = u := by simpa using hx
      exact hf k hk
theorem CrI.done (h : CrI w rows g us wr) (hn : us.length = rows.length) (h8 : rows.length ≤ 8) : wr.ownsRow 0 95 1 (.slice (some ⟨g, 0, none⟩) us.length us.length) us.length us := by
  obtain ⟨cur, h1, h2, h3⟩ := h.has
  have : cur = us.toArray := by
    apply Array.ext_getElem?
    intro j
    by_cases c : j < us.length
    · rw [h3 j c]; simp
    · rw [Array.getElem?_eq_none (by omega), List.getElem?_toArray, List.getElem?_eq_none (by omega)]
  rw [this] at h2
  exact own_made h2 (by omega) (by omega)
def CrP (w : World) (rows : List (List Vl)) (x : Ending) (w' : World) : Prop := ∃ (z : Nat) (us : List Value), x = .returned (.slice (some ⟨z, 0, none⟩) rows.length rows.length) ∧ us.length = rows.length ∧ w'.ownsRow 0 95 1 (.slice (some ⟨z, 0, none⟩) rows.length rows.length) us.length us ∧ (∀ (j : Nat) (u : Value) (r : List Vl), us[j]? = some u → rows[j]? = some r → OwnV w' u r) ∧ w.heap.size ≤ z ∧ (∀ u ∈ us, ∀ k, u.ownBlock = some k → w.heap.size ≤ k) ∧ Only (fun _ => False) w w'
set_option maxRecDepth 100000 in
set_option maxHeartbeats 4000000 in
theorem mcloneRows_any {e : GE} (E : GEl w e) : Calls Tryz.prog 196 #[e.rv] w (CrP w e.t.rows) := by
  have h8 := E.ok.len
  obtain ⟨cur0, hcs, hmk⟩ := run_make_rows w e.t.rows.length (by omega)
  have I0 : CrI w e.t.rows w.heap.size [] (w.alloc (.cells cur0 95)) := ⟨Nat.zero_le _, ⟨cur0, hcs, Has.new w _ _, fun j hj => by simp at hj⟩, fun j u r hu => by simp at hu, fun u hu => by simp at hu, (Only.refl _ w).alloc _, Nat.le_refl _⟩
  obtain ⟨ra, rc, hrv⟩ := E.rshape
  have HR3 := hide (show ∀ r ∈ e.t.rows, r.length ≤ 1000 from fun r hr => by rw [(E.ok.row r hr).len]; have := E.ok.n3; omega)
  have HE := hide (And.intro E hrv)
  have HI := hide I0
  rw [hrv]
  obtain ⟨n, hn⟩ : ∃ n, e.t.rows.length = n := ⟨_, rfl⟩
  have HN := hide hn
  rw [hn] at h8 hmk ⊢
  clear E I0 hcs hrv hn
  go_enter Tryz.func196, Tryz.ntmps196
  go_upto_region 3 with fail
  generalize w.alloc (.cells cur0 95) = w1 at *
  generalize hg : w.heap.size = g at *
  clear hmk
  have HG := hide hg
  clear hg
  go_loopw [4] (fun iv wr => ∃ us : List Value, iv = .int .i64 us.length ∧ CrI w e.t.rows g us wr) (fun iv _ => n - (intOf iv).toNat)
  case atStart => exact ⟨[], rfl, unhide HI⟩
  case round =>
    clear HI
    obtain ⟨us, rfl, I⟩ := hrel
    have hin := I.n
    rw [unhide HN] at hin
    by_cases hi2 : us.length < n
    · have a1 : decide ((us.length : Int) < (n : Int)) = true := decide_eq_true (by omega)
      have a1p : (us.length : Int) < (n : Int) := by omega
      obtain ⟨r, hr⟩ := getE (l := e.t.rows) (i := us.length) (by rw [unhide HN]; exact hi2)
      have E := (unhide HE).1.keep I.on (fun _ _ e => e) (fun _ _ e => e)
      obtain ⟨rg, u, cp, hru, _, cu, OU⟩ := E.at_ hr
      rw [(unhide HE).2, unhide HN] at hru
      simp only [Value.slice.injEq] at hru
      obtain ⟨rfl, _, rfl⟩ := hru
      have CC := hide (mcloneRow_any OU (unhide HR3 r (List.mem_of_getElem? hr)))
      have HII := hide (And.intro I hr)
      obtain ⟨ua, uc, hus⟩ := OU.shape
      subst hus
      obtain ⟨rn, hrn⟩ : ∃ rn, r.length = rn := ⟨_, rfl⟩
      rw [hrn] at cu CC
      clear I E OU hr
      obtain ⟨i, hie⟩ : ∃ i, us.length = i := ⟨_, rfl⟩
      have HIE := hide hie
      rw [hie] at a1 a1p cu hin hi2 ⊢
      clear hie
      go_wp2_with fail
      refine (unhide CC).mono ?_
      rintro x w3 ⟨z, rfl, O3, hz, o3⟩
      have I3 := (unhide HII).1.quiet o3
      obtain ⟨cur, h1, h2, h3⟩ := I3.has
      have d0 : ∃ y, w3.cell? ⟨g, i, none⟩ = some y := ⟨cur[i]'(by rw [h1, unhide HN]; exact hi2), by rw [h2.cell]; exact Array.getElem?_eq_getElem _⟩
      obtain ⟨y0, d0⟩ := d0
      have f0 := h2.free i
      have S3 := I3.step (u := .slice (some ⟨z, 0, none⟩) rn rn) (unhide HII).2 O3 (fun k hk => by simp [Value.ownBlock] at hk; have := (unhide HII).1.on.size; omega)
      rw [unhide HIE] at S3
      have HS := hide S3
      clear CC O3 hz o3 I3 h1 h2 h3 S3 cu HII hrn
      go_wp2_with fail
      go_roundw
      case rel => exact ⟨us ++ [.slice (some ⟨z, 0, none⟩) rn rn], by rw [List.length_append, List.length_singleton, unhide HIE]; go_num, unhide HS⟩
      case measure => simp [intOf]; omega
    · have hlen : us.length = n := by omega
      have a1 : decide ((us.length : Int) < (n : Int)) = false := decide_eq_false (by omega)
      have D := I.done (by rw [unhide HN]; exact hlen) (by rw [unhide HN]; exact h8)
      have HP := hide (show CrP w e.t.rows (.returned (.slice (some ⟨g, 0, none⟩) n n)) wr from ⟨g, us, by rw [unhide HN], by rw [unhide HN]; exact hlen, by have D2 := D; rw [hlen] at D2; rw [unhide HN, hlen]; exact D2, I.row, I.gl, I.fr, I.on⟩)
      clear I D
      go_wp2_with fail
      go_ret
      exact unhide HP
end
end Go.Proofs.Qxb6500412aGreat
