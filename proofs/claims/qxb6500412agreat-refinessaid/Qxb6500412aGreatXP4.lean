/-
  OWN WORK. TXN, plain: Insert, Update, Delete by words are those of the database that the session sees. No program in sight.
-/
import Derived.Test.Qxb6500412aGreatXP3
namespace Go.Proofs.Qxb6500412aGreat
open Go.RowKit Go.PlainAid
set_option linter.unusedSimpArgs false
set_option linter.unusedVariables false

section
variable {l l' : List WCh} {D : Db} {t : Tb}
theorem lkpR_ok {t : Tb} {key : Vl} (hc : chkKey t key = 0) : lkpR t key = match fndK t (cV key) with
    | none => ([], 9)
    | some r => (r, 0) := by
  unfold lkpR
  rw [if_neg (by rw [hc]; simp)]
  cases fndK t (cV key) <;> rfl
theorem has_fnd (h : WsOk l D) (G : DGd D) (ht : t ∈ D) {key : Vl} (hk : key.wf) (hc : chkKey t key = 0) : hasP l D t.nm key = (fndK (seeT l t) (cV key)).isSome := by
  rw [has_see h G t.nm hk]
  have e : lkpD (seeD l D) t.nm key = lkpR (seeT l t) key := by
    unfold lkpD
    rw [seeD_find, G.find ht]
    rfl
  rw [e, lkpR_ok (t := seeT l t) hc]
  cases fndK (seeT l t) (cV key) <;> simp
theorem chk_row (ok : TbOk t) {row : List Vl} (hr : RowOk t.cols row) : chkKey t (kyR t.pk row) = 0 ∧ (kyR t.pk row).wf := by
  obtain ⟨pf, ps, _⟩ := hr.pk ok
  refine ⟨?_, pf.1⟩
  unfold chkKey chkVal
  rw [if_pos ps, if_pos pf.2]
theorem ins_at (G : DGd D) (ht : t ∈ D) (row : List Vl) : insD (seeD l D) t.nm row = (if (insR (seeT l t) row).2 = 0 then putT (insR (seeT l t) row).1 (seeD l D) else seeD l D, (insR (seeT l t) row).2) := by
  unfold insD onT
  rw [seeD_find, G.find ht]
  rfl
theorem upd_at (G : DGd D) (ht : t ∈ D) (row : List Vl) : updD (seeD l D) t.nm row = (if (updR (seeT l t) row).2 = 0 then putT (updR (seeT l t) row).1 (seeD l D) else seeD l D, (updR (seeT l t) row).2) := by
  unfold updD onT
  rw [seeD_find, G.find ht]
  rfl
theorem del_at (G : DGd D) (ht : t ∈ D) (key : Vl) : delD (seeD l D) t.nm key = (if (delR (seeT l t) key).2 = 0 then putT (delR (seeT l t) key).1 (seeD l D) else seeD l D, (delR (seeT l t) key).2) := by
  unfold delD onT
  rw [seeD_find, G.find ht]
  rfl
/-- What Insert (fresh) or Update answers on the database that is seen. -/
def wrD (fresh : Bool) (D : Db) (nm : ByteArray) (row : List Vl) : Db × Int := if fresh = true then insD D nm row else updD D nm row
/-- A row refused. -/
theorem wr_err (h : WsG l D) (G : DGd D) (ht : t ∈ D) {row : List Vl} (hw : ∀ v ∈ row, v.wf) {fresh : Bool} {z : Int} (he : WrE l D t row fresh z) : wrD fresh (seeD l D) t.nm row = (seeD l D, z) := by
  have ok := G.tb t ht
  unfold wrD
  rw [ins_at G ht, upd_at G ht]
  rcases he with ⟨h1, hz⟩ | ⟨h1, h2⟩
  · have e1 : insR (seeT l t) row = (seeT l t, z) := by
      unfold insR
      rw [show (seeT l t).cols = t.cols from rfl, h1, if_pos hz]
    have e2 : updR (seeT l t) row = (seeT l t, z) := by
      unfold updR
      rw [show (seeT l t).cols = t.cols from rfl, h1, if_pos hz]
    rw [e1, e2]
    simp only [hz, if_false]
    split <;> rfl
  · have hr := chkRow_ok h1 hw
    obtain ⟨hk, hkw⟩ := chk_row ok hr
    rw [atV_ky, has_fnd h.o G ht hkw hk] at h2
    have ek : fndK (seeT l t) (pkK (seeT l t).pk row) = fndK (seeT l t) (cV (kyR t.pk row)) := rfl
    rcases h2 with ⟨rfl, hh, rfl⟩ | ⟨rfl, hh, rfl⟩ | ⟨rfl, hh, h8, rfl⟩
    · have e1 : insR (seeT l t) row = (seeT l t, 17) := by
        unfold insR
        rw [show (seeT l t).cols = t.cols from rfl, h1, if_neg (by simp), ek]
        obtain ⟨x, hx⟩ := Option.isSome_iff_exists.mp hh
        rw [hx]
      rw [e1]
      rfl
    · have e1 : updR (seeT l t) row = (seeT l t, 9) := by
        unfold updR
        rw [show (seeT l t).cols = t.cols from rfl, h1, if_neg (by simp), ek]
        rw [Option.isSome_eq_false_iff, Option.isNone_iff_eq_none] at hh
        rw [hh]
      rw [e1]
      rfl
    · rw [vw_see h G ht] at h8
      have e1 : insR (seeT l t) row = (seeT l t, 6) := by
        unfold insR
        rw [show (seeT l t).cols = t.cols from rfl, h1, if_neg (by simp), ek]
        rw [Option.isSome_eq_false_iff, Option.isNone_iff_eq_none] at hh
        rw [hh]
        simp only [h8, if_true]
      rw [e1]
      rfl
theorem fndK_none {t : Tb} {k : ByteArray} (h : fndK t k = none) : ∀ r ∈ t.rows, pkK t.pk r ≠ k := by
  unfold fndK at h
  intro r hr e
  have := List.find?_eq_none.mp h r hr
  simp [e] at this
theorem fndK_some {t : Tb} {k : ByteArray} {r : List Vl} (h : fndK t k = some r) : r ∈ t.rows ∧ pkK t.pk r = k := by
  unfold fndK at h
  exact ⟨List.mem_of_find?_eq_some h, by simpa using List.find?_some h⟩
/-- A row taken. -/
theorem wr_ok (h : WsG l D) (G : DGd D) (ht : t ∈ D) {row : List Vl} (hw : ∀ v ∈ row, v.wf) {fresh : Bool} (hok : WrOk l D t row fresh) {u : Value} {n : Nat} {hit : Bool} (hf : FnR l t.nm (atV row (t.pk : Int)) (n : Int) hit) : WsG (putW l n hit ⟨⟨t.nm, atV row (t.pk : Int), false, row⟩, u⟩) D ∧ wrD fresh (seeD l D) t.nm row = (seeD (putW l n hit ⟨⟨t.nm, atV row (t.pk : Int), false, row⟩, u⟩) D, 0) := by
  have ok := G.tb t ht
  have ok2 := h.o.tb G ht (h.len t ht)
  obtain ⟨h1, h2, h3⟩ := hok
  have hr := chkRow_ok h1 hw
  obtain ⟨hk, hkw⟩ := chk_row ok hr
  rw [atV_ky] at h2 hf ⊢
  rw [has_fnd h.o G ht hkw hk] at h2
  have ek : fndK (seeT l t) (pkK (seeT l t).pk row) = fndK (seeT l t) (cV (kyR t.pk row)) := rfl
  unfold wrD
  cases fresh with
  | true =>
    have hn : fndK (seeT l t) (cV (kyR t.pk row)) = none := by
      rw [← Option.isNone_iff_eq_none, ← Option.isSome_eq_false_iff]; exact h2
    have h8 := h3 rfl
    rw [vw_see h G ht] at h8
    have hl8 : (putBy (pkK t.pk) row (seeT l t).rows).length ≤ 8 := by
      rw [putBy_len_new (pkK t.pk) (fun e he => fndK_none hn e he)]
      omega
    obtain ⟨r1, r2⟩ := put_row h G ht hr (u := u) hf hl8
    refine ⟨r1, ?_⟩
    rw [if_pos rfl, ins_at G ht, r2]
    have e1 : insR (seeT l t) row = (withR (seeT l t) (putBy (pkK t.pk) row (seeT l t).rows), 0) := by
      unfold insR
      rw [show (seeT l t).cols = t.cols from rfl, h1, if_neg (by simp), ek, hn]
      simp only
      rw [if_neg (by omega)]
      rfl
    rw [e1]
    rfl
  | false =>
    obtain ⟨x, hx⟩ := Option.isSome_iff_exists.mp h2
    have hl8 : (putBy (pkK t.pk) row (seeT l t).rows).length ≤ 8 := by
      rw [putBy_len_old (pkK t.pk) ok2.srt ⟨x, (fndK_some hx).1, (fndK_some hx).2⟩]
      exact h.len t ht
    obtain ⟨r1, r2⟩ := put_row h G ht hr (u := u) hf hl8
    refine ⟨r1, ?_⟩
    rw [if_neg (by simp), upd_at G ht, r2]
    have e1 : updR (seeT l t) row = (withR (seeT l t) (putBy (pkK t.pk) row (seeT l t).rows), 0) := by
      unfold updR
      rw [show (seeT l t).cols = t.cols from rfl, h1, if_neg (by simp), ek, hx]
      rfl
    rw [e1]
    rfl
/-- A Delete refused. -/
theorem dl_err (h : WsG l D) (G : DGd D) (ht : t ∈ D) {key : Vl} (hw : key.wf) {z : Int} (hz : (chkKey t key = z ∧ z ≠ 0) ∨ (chkKey t key = 0 ∧ hasP l D t.nm key = false ∧ z = 9)) : delD (seeD l D) t.nm key = (seeD l D, z) := by
  rw [del_at G ht]
  rcases hz with ⟨h1, hz⟩ | ⟨h1, h2, rfl⟩
  · have e1 : delR (seeT l t) key = (seeT l t, z) := by
      unfold delR
      rw [seeT_chk, h1, if_pos hz]
    rw [e1]
    simp only [hz, if_false]
  · rw [has_fnd h.o G ht hw h1, Option.isSome_eq_false_iff, Option.isNone_iff_eq_none] at h2
    have e1 : delR (seeT l t) key = (seeT l t, 9) := by
      unfold delR
      rw [seeT_chk, h1, if_neg (by simp), h2]
    rw [e1]
    rfl
theorem blw_row (G : DGd D) (ht : t ∈ D) {key : Vl} (hc : chkKey t key = 0) : blwP D t.nm key = true ↔ ∃ r ∈ t.rows, pkK t.pk r = cV key := by
  have e0 : lkpD D t.nm key = lkpR t key := by
    unfold lkpD
    rw [G.find ht]
  unfold blwP
  rw [e0, lkpR_ok hc]
  cases e : fndK t (cV key) with
  | none =>
    simp only [decide_eq_true_eq]
    constructor
    · intro h; exact absurd h (by decide)
    · rintro ⟨r, hr, hk⟩; exact absurd hk (fndK_none e r hr)
  | some r =>
    simp only [decide_true, true_iff]
    exact ⟨r, fndK_some e⟩
/-- A Delete taken. -/
theorem dl_ok (h : WsG l D) (G : DGd D) (ht : t ∈ D) {key : Vl} (hw : key.wf) (hc : chkKey t key = 0) (hh : hasP l D t.nm key = true) (hl : DlW l D t.nm key l') : WsG l' D ∧ delD (seeD l D) t.nm key = (seeD l' D, 0) := by
  have ok := G.tb t ht
  obtain ⟨n, hit, hf, rfl⟩ := hl
  have hb := blw_row G ht hc
  rw [has_fnd h.o G ht hw hc] at hh
  obtain ⟨x, hx⟩ := Option.isSome_iff_exists.mp hh
  have e1 : delR (seeT l t) key = (withR (seeT l t) ((seeT l t).rows.filter (fun r => decide (pkK t.pk r ≠ cV key))), 0) := by
    unfold delR
    rw [seeT_chk, hc, if_neg (by simp), hx]
    rfl
  rw [del_at G ht, e1]
  simp only [if_true]
  have fin : ∀ l', WUp l' → (∀ c, c ∈ l' ↔ (c ∈ l ∧ ¬ (c.d.tab = t.nm ∧ c.d.key = key)) ∨ ((∃ r ∈ t.rows, pkK t.pk r = cV key) ∧ ∃ u, c = ⟨⟨t.nm, key, true, []⟩, u⟩ ∧ u = Value.slice none 0 0)) → WsG l' D ∧ (putT (withR (seeT l t) ((seeT l t).rows.filter (fun r => decide (pkK t.pk r ≠ cV key)))) (seeD l D), (0 : Int)) = (seeD l' D, 0) := by
    intro l' h1 h2
    obtain ⟨r1, r2⟩ := del_words h G ht hw hc h1 h2
    exact ⟨r1, by rw [r2]⟩
  cases e : blwP D t.nm key with
  | true =>
    rw [if_pos rfl]
    obtain ⟨h1, h2⟩ := put_words h.o.up h.o.wf (x := ⟨⟨t.nm, key, true, []⟩, .slice none 0 0⟩) hw hf
    refine fin _ h1 (fun c => ?_)
    rw [h2]
    constructor
    · rintro (rfl | hc)
      · exact .inr ⟨hb.mp e, _, rfl, rfl⟩
      · exact .inl hc
    · rintro (hc | ⟨_, u, rfl, rfl⟩)
      · exact .inr hc
      · exact .inl rfl
  | false =>
    rw [if_neg (by simp)]
    obtain ⟨h1, h2⟩ := drop_words h.o.up h.o.wf hw hf
    refine fin _ h1 (fun c => ?_)
    rw [h2]
    constructor
    · exact .inl
    · rintro (hc | ⟨hr, _⟩)
      · exact hc
      · rw [hb.mpr hr] at e; cases e
end
end Go.Proofs.Qxb6500412aGreat
