/-
  OWN WORK. THE TXN LAW, plain: what an op answers and leaves is settled by the state; what the observers show settles a state that was just opened.
-/
import Derived.Test.Qxb6500414aGreatXN2
import Derived.Test.Qxb6500414aGreatXMu0
namespace Go.Proofs.Qxb6500414aGreat
open Go.RowKit Go.PlainAid
set_option linter.unusedSimpArgs false
set_option linter.unusedVariables false

section
variable {M M1 M2 : Mu} {a bb cc kd kd2 : Int} {s t nm : ByteArray} {an1 an2 : An} {mode z z' : Int}
theorem TkZ_det (h : M.TkZ a nm mode z) (h' : M.TkZ a nm mode z') : z = z' := by
  rcases h with ⟨h1, h2⟩ | ⟨h1, h2, h3⟩ | ⟨h1, h2, h3, h4⟩ | ⟨h1, h2, h3, h4⟩ <;> rcases h' with ⟨k1, k2⟩ | ⟨k1, k2, k3⟩ | ⟨k1, k2, k3, k4⟩ | ⟨k1, k2, k3, k4⟩ <;> first | omega | contradiction
theorem AlZ_det (h : M.AlZ a z) (h' : M.AlZ a z') : z = z' := by
  rcases h with ⟨h1, h2⟩ | ⟨h1, h2, h3⟩ | ⟨h1, h2, h3, h4⟩ | ⟨h1, h2, h3⟩ <;> rcases h' with ⟨k1, k2⟩ | ⟨k1, k2, k3⟩ | ⟨k1, k2, k3, k4⟩ | ⟨k1, k2, k3⟩ <;> first
    | omega
    | contradiction
    | (rw [h2] at k2; cases k2)
    | (exfalso; exact k2 ⟨a.toNat, by have := h1.1; have := h1.2; omega, h2⟩)
    | (exfalso; exact h2 ⟨a.toNat, by have := k1.1; have := k1.2; omega, k2⟩)
theorem MuWr_det {f : Db → Db × Int} (h : MuWr M a nm f M1 an1) (h' : MuWr M a nm f M2 an2) : M1 = M2 ∧ an1 = an2 := by
  rcases h with ⟨z, h0, h1, rfl, rfl⟩ | ⟨h1, rfl, rfl⟩ <;> rcases h' with ⟨z', k0, k1, rfl, rfl⟩ | ⟨k1, rfl, rfl⟩
  · exact ⟨rfl, by rw [TkZ_det h1 k1]⟩
  · exact absurd (TkZ_det h1 k1) h0
  · exact absurd (TkZ_det k1 h1) k0
  · exact ⟨rfl, rfl⟩
theorem MuSc_det {R : Db × Int} (h : MuSc M a R M1 an1) (h' : MuSc M a R M2 an2) : M1 = M2 ∧ an1 = an2 := by
  rcases h with ⟨z, h0, h1, rfl, rfl⟩ | ⟨h1, h2, rfl, rfl⟩ <;> rcases h' with ⟨z', k0, k1, rfl, rfl⟩ | ⟨k1, k2, rfl, rfl⟩
  · refine ⟨rfl, ?_⟩
    rcases h1 with h1 | ⟨h1, h2⟩ <;> rcases k1 with k1 | ⟨k1, k2⟩
    · rw [AlZ_det h1 k1]
    · exact absurd (AlZ_det h1 k1) h0
    · exact absurd (AlZ_det k1 h1) k0
    · rw [h2, k2]
  · rcases h1 with h1 | ⟨_, h2⟩
    · exact absurd (AlZ_det h1 k1) h0
    · exact absurd (h2.trans k2) h0
  · rcases k1 with k1 | ⟨_, k2⟩
    · exact absurd (AlZ_det k1 h1) k0
    · exact absurd (k2.trans h2) k0
  · exact ⟨rfl, rfl⟩
set_option maxHeartbeats 2000000 in
theorem MuOp.det (h1 : MuOp M a bb cc s t kd M1 an1) (h2 : MuOp M a bb cc s t kd2 M2 an2) (hk : kd2 = kd) : M1 = M2 ∧ an1 = an2 := by
  cases h1 with
  | bgN z h =>
    cases h2 with
    | bgN z' h' =>
      refine ⟨rfl, ?_⟩
      have : z = z' := by
        rcases h with ⟨x1, x2⟩ | ⟨x1, x2, x3⟩ <;> rcases h' with ⟨y1, y2⟩ | ⟨y1, y2, y3⟩ <;> first | omega | contradiction
      rw [this]
    | bgY h' h2' =>
      exfalso
      rcases h with ⟨x1, x2⟩ | ⟨x1, x2, x3⟩
      · exact x1 h'
      · rw [x2] at h2'; cases h2'
    | _ => exfalso; omega
  | bgY h h2' =>
    cases h2 with
    | bgN z' h' =>
      exfalso
      rcases h' with ⟨x1, x2⟩ | ⟨x1, x2, x3⟩
      · exact x1 h
      · rw [x2] at h2'; cases h2'
    | bgY _ _ => exact ⟨rfl, rfl⟩
    | _ => exfalso; omega
  | coN h =>
    cases h2 with
    | coN _ => exact ⟨rfl, rfl⟩
    | coY h' => exact absurd h' h
    | _ => exfalso; omega
  | coY h =>
    cases h2 with
    | coN h' => exact absurd h h'
    | coY _ => exact ⟨rfl, rfl⟩
    | _ => exfalso; omega
  | roN h =>
    cases h2 with
    | roN _ => exact ⟨rfl, rfl⟩
    | roY h' => exact absurd h' h
    | _ => exfalso; omega
  | roY h =>
    cases h2 with
    | roN h' => exact absurd h h'
    | roY _ => exact ⟨rfl, rfl⟩
    | _ => exfalso; omega
  | crt M' an h =>
    cases h2 with
    | crt M'' an' h' => exact MuSc_det h h'
    | _ => exfalso; omega
  | drp M' an h =>
    cases h2 with
    | drp M'' an' h' => exact MuSc_det h h'
    | _ => exfalso; omega
  | cix M' an h =>
    cases h2 with
    | cix M'' an' h' => exact MuSc_det h h'
    | _ => exfalso; omega
  | ins M' an h =>
    cases h2 with
    | ins M'' an' h' => exact MuWr_det h h'
    | _ => exfalso; omega
  | upd M' an h =>
    cases h2 with
    | upd M'' an' h' => exact MuWr_det h h'
    | _ => exfalso; omega
  | del M' an h =>
    cases h2 with
    | del M'' an' h' => exact MuWr_det h h'
    | _ => exfalso; omega
  | lkN z h h' =>
    cases h2 with
    | lkN z' k k' => exact ⟨rfl, by rw [TkZ_det h' k']⟩
    | lkY k' => exact absurd (TkZ_det h' k') h
    | _ => exfalso; omega
  | lkY h' =>
    cases h2 with
    | lkN z' k k' => exact absurd (TkZ_det k' h') k
    | lkY k' => exact ⟨rfl, rfl⟩
    | _ => exfalso; omega
  | scN z h h' =>
    cases h2 with
    | scN z' k k' => exact ⟨rfl, by rw [TkZ_det h' k']⟩
    | scY k' => exact absurd (TkZ_det h' k') h
    | _ => exfalso; omega
  | scY h' =>
    cases h2 with
    | scN z' k k' => exact absurd (TkZ_det k' h') k
    | scY k' => exact ⟨rfl, rfl⟩
    | _ => exfalso; omega
  | act =>
    cases h2 with
    | act => exact ⟨rfl, rfl⟩
    | _ => exfalso; omega
  | lck =>
    cases h2 with
    | lck => exact ⟨rfl, rfl⟩
    | _ => exfalso; omega
  | vie =>
    cases h2 with
    | vie => exact ⟨rfl, rfl⟩
    | _ => exfalso; omega
  | sch =>
    cases h2 with
    | sch => exact ⟨rfl, rfl⟩
    | _ => exfalso; omega
  | tab =>
    cases h2 with
    | tab => exact ⟨rfl, rfl⟩
    | _ => exfalso; omega
  | chk =>
    cases h2 with
    | chk => exact ⟨rfl, rfl⟩
    | _ => exfalso; omega
  | oth kd h =>
    cases h2 with
    | oth _ _ => exact ⟨rfl, rfl⟩
    | _ => exfalso; omega
end
def lkA (M : Mu) (s : Int) (nm : ByteArray) : Int := if gdS s then M.lk s.toNat nm else 0
def actA (M : Mu) (s : Int) : Bool := decide (gdS s) && M.act s.toNat
/-- What the observers show of one name to one session. -/
def ObsS (M M2 : Mu) (nm : ByteArray) (s : Int) : Prop := lkA M s nm = lkA M2 s nm ∧ anV M s nm = anV M2 s nm
def ObsAt (M M2 : Mu) (nm : ByteArray) : Prop := schD M.com nm = schD M2.com nm ∧ ∀ s : Int, -1 ≤ s → s < 5 → ObsS M M2 nm s
def Obs (M M2 : Mu) : Prop := namesD M.com = namesD M2.com ∧ (∀ s : Int, -1 ≤ s → s < 5 → actA M s = actA M2 s) ∧ ObsAt M M2 ⟨#[]⟩ ∧ ∀ nm ∈ namesD M2.com, ObsAt M M2 nm
theorem ObsAt.refl (M : Mu) (nm : ByteArray) : ObsAt M M nm := ⟨rfl, fun s _ _ => ⟨rfl, rfl⟩⟩
theorem Obs.refl (M : Mu) : Obs M M := ⟨rfl, fun s _ _ => rfl, ObsAt.refl M _, fun nm _ => ObsAt.refl M nm⟩
theorem Obs.mu0 {D E : Db} (hD : DGd D) (hE : DGd E) (h : Obs (Mu0 D) (Mu0 E)) : D = E := by
  obtain ⟨h1, _, _, h4⟩ := h
  have hn : nmsD D = nmsD E := h1
  refine db_ext hD.srt hE.srt (fun nm => ?_)
  have hs := find_nms hn nm
  cases c : findD D nm with
  | none =>
    rw [c] at hs
    cases d : findD E nm with
    | none => rfl
    | some _ => rw [d] at hs; cases hs
  | some t =>
    rw [c] at hs
    obtain ⟨u, hu⟩ := Option.isSome_iff_exists.mp hs.symm
    rw [hu]
    have hm : nm ∈ namesD E := List.mem_map.mpr ⟨u, (findD_mem hu).1, (findD_mem hu).2⟩
    obtain ⟨k1, k2⟩ := h4 nm hm
    have k3 := (k2 0 (by omega) (by omega)).2
    have k1 : schD D nm = schD E nm := k1
    unfold schD at k1
    rw [c, hu] at k1
    have k3 : anV (Mu0 D) 0 nm = anV (Mu0 E) 0 nm := k3
    unfold anV at k3
    have g0 : gdS (0 : Int) := ⟨by omega, by omega⟩
    rw [if_pos g0, if_pos g0] at k3
    have e1 : findD (Mu0 D).com nm = some t := c
    have e2 : findD (Mu0 E).com nm = some u := hu
    have e3 : findD ((Mu0 D).see (0 : Int).toNat) nm = some t := c
    have e4 : findD ((Mu0 E).see (0 : Int).toNat) nm = some u := hu
    rw [e1, e2, e3, e4] at k3
    simp only [Sch.mk.injEq] at k1
    have k4 := congrArg An.rows k3
    simp only [Option.map_some, Option.getD_some] at k4
    obtain ⟨a1, a2, a3, a4, _⟩ := k1
    have hix : t.ix = u.ix := by
      cases x : t.ix <;> cases y : u.ix <;> rw [x, y] at a4 <;> simp [ixI] at a4
      congr 1; omega
    have hpk : t.pk = u.pk := by omega
    cases t
    cases u
    simp only at a1 a2 hpk hix k4
    simp only [Option.some.injEq, Tb.mk.injEq]
    exact ⟨a1, a2, hpk, hix, k4⟩
end Go.Proofs.Qxb6500414aGreat
