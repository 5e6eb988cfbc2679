/-
  OWN WORK. TXN, Keeps, plain: what a data call leaves, against the shots. No program in sight.
-/
import Derived.Test.Qxb6500414aGreatXKP1
namespace Go.Proofs.Qxb6500414aGreat
open Go.RowKit Go.PlainAid
set_option linter.unusedSimpArgs false
set_option linter.unusedVariables false

/-- Every session sees every table as before. -/
def Stay (M N : Mu) : Prop := ∀ (s t : Nat) (T : Tb), s < 4 → M.com[t]? = some T → StyP M N s T.nm
def StayBut (M N : Mu) (s0 t0 : Nat) : Prop := ∀ (s t : Nat) (T : Tb), s < 4 → M.com[t]? = some T → ¬ ((s : Int) = (s0 : Int) ∧ (t : Int) = (t0 : Int)) → StyP M N s T.nm
/-- A data call behind its lock. -/
structure DtO (M N : Mu) (s t : Nat) (T : Tb) (tn : ByteArray) (mode : Int) : Prop where
  s4 : s < 4
  hT : M.com[t]? = some T
  nm : T.nm = tn
  tk : M.TkZ (s : Int) tn mode 0
  nms : namesD M.com = namesD N.com
  act : ∀ o, M.act o = N.act o
  lk : ∀ o n, N.lk o n = if o = s ∧ n = tn ∧ M.lk s tn < mode then mode else M.lk o n
  com : N.com = M.com
section
variable {M N : Mu} {a bb cc : Int} {nm os ot : ByteArray} {s t : Nat} {T u : Tb} {mode z : Int} {an : An}
theorem find_at {D : Db} (h : findD D nm = some T) : ∃ t : Nat, D[t]? = some T := by
  obtain ⟨t, ht⟩ := List.getElem?_of_mem (findD_mem h).1
  exact ⟨t, ht⟩
theorem PlR.at_ (hs : M.com.Pairwise (fun a b => lt a.nm b.nm = true)) (hT : M.com[t]? = some T) (h : PlR M.com T.nm z) : z = t := by
  rcases h with ⟨_, h⟩ | ⟨t', T', rfl, h1, h2⟩
  · exact absurd rfl (h T (List.mem_of_getElem? hT))
  · have := srt_inj (f := fun t : Tb => t.nm) hs h1 hT h2
    omega
theorem tkz_place (ok : MuOk M) (h : M.TkZ a nm mode 0) : ∃ (s t : Nat) (T : Tb), a = s ∧ s < 4 ∧ M.act s = true ∧ M.com[t]? = some T ∧ T.nm = nm ∧ findD M.com nm = some T := by
  obtain ⟨n, rfl, hn, hi⟩ := tkz_good h
  have hf : findD M.com nm ≠ none := tkz_some h
  cases c : findD M.com nm with
  | none => exact absurd c hf
  | some T =>
    obtain ⟨t, ht⟩ := find_at c
    refine ⟨n, t, T, rfl, hn, ?_, ht, (findD_mem c).2, rfl⟩
    unfold Mu.inT at hi
    cases d : M.act (n : Int).toNat with
    | true => exact d
    | false =>
      rw [d] at hi
      by_cases g : gdS (n : Int)
      · rw [if_pos g] at hi; simp at hi
      · rw [if_neg g] at hi; cases hi
theorem Stay.refl (M : Mu) : Stay M M := fun s t T hs hT => ⟨⟨T, List.mem_of_getElem? hT, rfl⟩, rfl⟩
theorem Stay.of (hc : N.com = M.com) (hr : ∀ (s t : Nat) (T : Tb), s < 4 → M.com[t]? = some T → M.rows s T.nm = N.rows s T.nm) : Stay M N := fun s t T hs hT => ⟨⟨T, by rw [hc]; exact List.mem_of_getElem? hT, rfl⟩, hr s t T hs hT⟩
theorem wr_rows {g : Tb → Tb × Int} (ok : MuOk M) (hs : s < 4) (hu : findD (M.see s) nm = some u) (hg : (g u).1.nm = u.nm) (s' : Nat) (n' : ByteArray) : ((M.setL s nm 2).setV s (onT (M.see s) nm g).1).rows s' n' = if s' = s ∧ n' = nm ∧ (g u).2 = 0 then (g u).1.rows else M.rows s' n' := by
  obtain ⟨um, un⟩ := findD_mem hu
  have e0 : ((M.setL s nm 2).setV s (onT (M.see s) nm g).1).rows s' n' = ((findD (if s' = s then (onT (M.see s) nm g).1 else M.see s') n').map (·.rows)).getD [] := rfl
  rw [e0]
  by_cases c : s' = s
  · subst c
    rw [if_pos rfl]
    have e1 : onT (M.see s') nm g = (if (g u).2 = 0 then putT (g u).1 (M.see s') else M.see s', (g u).2) := by unfold onT; rw [hu]
    rw [e1]
    simp only
    by_cases c0 : (g u).2 = 0
    · rw [if_pos c0, find_putT (ok.gs s' hs).srt ⟨u, um, hg.symm⟩, hg, un]
      by_cases c1 : n' = nm
      · rw [if_pos c1, if_pos ⟨trivial, c1, c0⟩]; rfl
      · rw [if_neg c1, if_neg (fun x => c1 x.2.1)]; rfl
    · rw [if_neg c0, if_neg (fun x => c0 x.2.2)]; rfl
  · rw [if_neg c, if_neg (fun x => c x.1)]; rfl
theorem DtO.of (ok : MuOk M) (h : M.TkZ a nm mode 0) (hc : N.com = M.com) (ha : N.act = M.act) (hl : ∀ s : Nat, a = s → N.lk = (M.setL s nm mode).lk) : ∃ (s t : Nat) (T : Tb), a = s ∧ DtO M N s t T nm mode ∧ M.act s = true := by
  obtain ⟨s, t, T, rfl, hs, hact, hT, hn, hf⟩ := tkz_place ok h
  exact ⟨s, t, T, rfl, ⟨hs, hT, hn, h, by rw [hc], fun o => by rw [ha], fun o n => by rw [hl s rfl]; rfl, hc⟩, hact⟩
/-- What a change leaves. -/
structure DtW (M N : Mu) (s t : Nat) (T : Tb) (e : Int) (RF WR : Prop) : Prop where
  stE : e ≠ 0 → Stay M N
  stO : StayBut M N s t
  rf : RF
  late : Late e
  wr : e = 0 → WR
def WrI (M N : Mu) (s : Nat) (T : Tb) (row : List Vl) : Prop := T.pk < row.length ∧ ∀ y, row[T.pk]? = some y → (∃ r ∈ N.rows s T.nm, r[T.pk]? = some y) ∧ ∀ (i : Nat) (r : List Vl), (N.rows s T.nm)[i]? = some r → r[T.pk]? = some y → r = row ∧ M.rows s T.nm = (N.rows s T.nm).eraseIdx i
def WrU (M N : Mu) (s : Nat) (T : Tb) (row : List Vl) : Prop := T.pk < row.length ∧ (N.rows s T.nm).length = (M.rows s T.nm).length ∧ ∀ y, row[T.pk]? = some y → (∃ r ∈ M.rows s T.nm, r[T.pk]? = some y) ∧ ∀ (i : Nat) (r : List Vl), (M.rows s T.nm)[i]? = some r → r[T.pk]? = some y → N.rows s T.nm = (M.rows s T.nm).set i row
def WrD (M N : Mu) (s : Nat) (T : Tb) (key : Vl) : Prop := (∃ r ∈ M.rows s T.nm, r[T.pk]? = some key) ∧ ∀ (i : Nat) (r : List Vl), (M.rows s T.nm)[i]? = some r → r[T.pk]? = some key → N.rows s T.nm = (M.rows s T.nm).eraseIdx i
/-- A change, whatever it is. -/
theorem wr_all {g : Tb → Tb × Int} (ok : MuOk M) (k : MuK M) (hg : ∀ u, (g u).1.nm = u.nm) (h : M.TkZ a os 2 0) (hN : N = (M.setL a.toNat os 2).setV a.toNat (onT (M.see a.toNat) os g).1) :
    ∃ (s t : Nat) (T u : Tb), a = s ∧ DtO M N s t T os 2 ∧ M.act s = true ∧ TbOk u ∧ u.pk = T.pk ∧ M.rows s T.nm = u.rows ∧ (onT (M.see s) os g).2 = (g u).2 ∧ ((g u).2 = 0 → N.rows s T.nm = (g u).1.rows) ∧ ((g u).2 ≠ 0 → Stay M N) ∧ StayBut M N s t := by
  subst hN
  obtain ⟨s, t, T, rfl, D, hact⟩ := DtO.of (N := (M.setL a.toNat os 2).setV a.toNat (onT (M.see a.toNat) os g).1) ok h rfl rfl (fun s e => by rw [e]; rfl)
  have es : ((s : Nat) : Int).toNat = s := by omega
  rw [es] at D ⊢
  obtain ⟨u, hu, e1, e2, tb, er⟩ := ok.at_ D.s4 D.hT k
  have hn := D.nm
  rw [hn] at hu er
  have R := wr_rows (g := g) ok D.s4 hu (hg u)
  refine ⟨s, t, T, u, rfl, D, hact, tb, e1, by rw [hn]; exact er, ?_, fun h0 => ?_, fun h0 => Stay.of rfl (fun s' t' T' hs' hT' => ?_), fun s' t' T' hs' hT' hne => ⟨⟨T', List.mem_of_getElem? hT', rfl⟩, ?_⟩⟩
  · unfold onT; rw [hu]
  · rw [hn, R, if_pos ⟨rfl, rfl, h0⟩]
  · rw [R, if_neg (fun x => h0 x.2.2)]
  · rw [R, if_neg (fun x => ?_)]
    obtain ⟨x1, x2, x3⟩ := x
    apply hne
    have := srt_inj (f := fun t : Tb => t.nm) ok.g.srt hT' D.hT (by rw [x2, hn])
    omega
theorem DtO.held (D : DtO M N s t T nm mode) : (∀ o, o < 4 → M.act o = N.act o) ∧ ∀ (s' t' : Nat) (T' : Tb), s' < 4 → M.com[t']? = some T' → M.lk s' T'.nm ≤ N.lk s' T'.nm := by
  refine ⟨fun o _ => D.act o, fun s' t' T' _ _ => ?_⟩
  rw [D.lk]
  split
  · next c => rw [c.1, c.2.1]; omega
  · omega
theorem DtO.lkd (D : DtO M N s t T nm mode) (hs : M.com.Pairwise (fun a b => lt a.nm b.nm = true)) (want : Int) (hw : want = if mode < M.lk s T.nm then M.lk s T.nm else mode) : ∀ (s' t' : Nat) (T' : Tb), s' < 4 → M.com[t']? = some T' → N.lk s' T'.nm = if (s' : Int) = (s : Int) ∧ (t' : Int) = (t : Int) then want else M.lk s' T'.nm := by
  intro s' t' T' h4 hT'
  rw [D.lk, hw]
  by_cases c : (s' : Int) = (s : Int) ∧ (t' : Int) = (t : Int)
  · have e1 : s' = s := by omega
    have e2 : t' = t := by omega
    subst e1 e2
    have e3 := D.hT
    rw [hT'] at e3
    cases e3
    have hn := D.nm
    rw [if_pos c, hn]
    by_cases d : M.lk s' nm < mode
    · rw [if_pos ⟨rfl, rfl, d⟩, if_neg (by omega)]
    · rw [if_neg (fun x => d x.2.2)]
      split
      · rfl
      · omega
  · rw [if_neg c, if_neg]
    rintro ⟨x1, x2, _⟩
    apply c
    have := srt_inj (f := fun t : Tb => t.nm) hs hT' D.hT (by rw [x2, D.nm])
    omega
theorem kinsR_nm (u : Tb) (row : List Vl) : (insR u row).1.nm = u.nm := by
  unfold insR
  split
  · rfl
  · split
    · rfl
    · split <;> rfl
theorem kupdR_nm (u : Tb) (row : List Vl) : (updR u row).1.nm = u.nm := by
  unfold updR
  split
  · rfl
  · split <;> rfl
theorem kdelR_nm (u : Tb) (key : Vl) : (delR u key).1.nm = u.nm := by
  unfold delR
  split
  · rfl
  · split <;> rfl
/-- Refused ahead of the lock. -/
def DtE (M N : Mu) (a : Int) (nm : ByteArray) (mode e : Int) : Prop := e ≠ 0 ∧ M.TkZ a nm mode e ∧ N = M
variable {kd : Int}
theorem MuOp.d7 (ok : MuOk M) (k : MuK M) (hop : MuOp M a bb cc os ot kd N an) (hk : kd = 7) : DtE M N a os 2 an.e ∨ ∃ (s t : Nat) (T : Tb), a = s ∧ DtO M N s t T os 2 ∧ M.act s = true ∧ DtW M N s t T an.e (RfR (M.rows s T.nm) T.pk (rowP ot) an.e) (WrI M N s T (rowP ot)) := by
  cases hop with
  | ins _ _ h1 =>
    rcases h1 with ⟨z, h0, hz, rfl, rfl⟩ | ⟨hz, hN, rfl⟩
    · exact .inl ⟨h0, hz, rfl⟩
    · obtain ⟨s, t, T, u, rfl, D, ha, tb, ep, er, e2, h3, h4, h5⟩ := wr_all (g := fun t => insR t (rowP ot)) ok k (fun u => kinsR_nm u _) hz hN
      have es : ((s : Nat) : Int).toNat = s := by omega
      have ee : (anE (insD (M.see ((s : Nat) : Int).toNat) os (rowP ot)).2).e = (insR u (rowP ot)).2 := by rw [es]; exact e2
      refine .inr ⟨s, t, T, rfl, D, ha, ?_⟩
      rw [ee]
      have f := kins_rf tb (rowP_wf ot)
      refine ⟨h4, h5, by rw [er, ← ep]; exact f.1, f.2, fun h0 => ?_⟩
      unfold WrI
      rw [er, ← ep, h3 h0]
      exact kins_ok tb (rowP_wf ot) h0
  | oth _ h => omega
  | _ => omega
theorem MuOp.d8 (ok : MuOk M) (k : MuK M) (hop : MuOp M a bb cc os ot kd N an) (hk : kd = 8) : DtE M N a os 2 an.e ∨ ∃ (s t : Nat) (T : Tb), a = s ∧ DtO M N s t T os 2 ∧ M.act s = true ∧ DtW M N s t T an.e (RfR (M.rows s T.nm) T.pk (rowP ot) an.e) (WrU M N s T (rowP ot)) := by
  cases hop with
  | upd _ _ h1 =>
    rcases h1 with ⟨z, h0, hz, rfl, rfl⟩ | ⟨hz, hN, rfl⟩
    · exact .inl ⟨h0, hz, rfl⟩
    · obtain ⟨s, t, T, u, rfl, D, ha, tb, ep, er, e2, h3, h4, h5⟩ := wr_all (g := fun t => updR t (rowP ot)) ok k (fun u => kupdR_nm u _) hz hN
      have es : ((s : Nat) : Int).toNat = s := by omega
      have ee : (anE (updD (M.see ((s : Nat) : Int).toNat) os (rowP ot)).2).e = (updR u (rowP ot)).2 := by rw [es]; exact e2
      refine .inr ⟨s, t, T, rfl, D, ha, ?_⟩
      rw [ee]
      have f := kupd_rf tb (rowP_wf ot)
      refine ⟨h4, h5, by rw [er, ← ep]; exact f.1, f.2, fun h0 => ?_⟩
      unfold WrU
      rw [er, ← ep, h3 h0]
      exact kupd_ok tb (rowP_wf ot) h0
  | oth _ h => omega
  | _ => omega
theorem MuOp.d9 (ok : MuOk M) (k : MuK M) (hop : MuOp M a bb cc os ot kd N an) (hk : kd = 9) : DtE M N a os 2 an.e ∨ ∃ (s t : Nat) (T : Tb), a = s ∧ DtO M N s t T os 2 ∧ M.act s = true ∧ DtW M N s t T an.e (RfK (M.rows s T.nm) T.pk (fstP ot) an.e) (WrD M N s T (fstP ot)) := by
  cases hop with
  | del _ _ h1 =>
    rcases h1 with ⟨z, h0, hz, rfl, rfl⟩ | ⟨hz, hN, rfl⟩
    · exact .inl ⟨h0, hz, rfl⟩
    · obtain ⟨s, t, T, u, rfl, D, ha, tb, ep, er, e2, h3, h4, h5⟩ := wr_all (g := fun t => delR t (fstP ot)) ok k (fun u => kdelR_nm u _) hz hN
      have es : ((s : Nat) : Int).toNat = s := by omega
      have ee : (anE (delD (M.see ((s : Nat) : Int).toNat) os (fstP ot)).2).e = (delR u (fstP ot)).2 := by rw [es]; exact e2
      refine .inr ⟨s, t, T, rfl, D, ha, ?_⟩
      rw [ee]
      have f := kdel_rf tb (fstP_wf ot)
      refine ⟨h4, h5, by rw [er, ← ep]; exact f.1, f.2, fun h0 => ?_⟩
      unfold WrD
      rw [er, ← ep, h3 h0]
      exact kdel_ok tb (fstP_wf ot) h0
  | oth _ h => omega
  | _ => omega
/-- What a Lookup answers. -/
def LkA (M : Mu) (s : Nat) (T : Tb) (key : Vl) (row : List Vl) : Prop := (∃ r ∈ M.rows s T.nm, r[T.pk]? = some key) ∧ ∀ (i : Nat) (r : List Vl), (M.rows s T.nm)[i]? = some r → r[T.pk]? = some key → row = r
theorem MuOp.d10 (ok : MuOk M) (k : MuK M) (hop : MuOp M a bb cc os ot kd N an) (hk : kd = 10) : DtE M N a os 1 an.e ∨ ∃ (s t : Nat) (T : Tb), a = s ∧ DtO M N s t T os 1 ∧ M.act s = true ∧ Stay M N ∧ Late an.e ∧ RfK (M.rows s T.nm) T.pk (fstP ot) an.e ∧ (an.e = 0 → LkA M s T (fstP ot) an.row) := by
  cases hop with
  | lkN z h0 hz => exact .inl ⟨h0, hz, rfl⟩
  | lkY hz =>
    obtain ⟨s, t, T, rfl, D, hact⟩ := DtO.of (N := M.setL a.toNat os 1) ok hz rfl rfl (fun s e => by rw [e]; rfl)
    have es : ((s : Nat) : Int).toNat = s := by omega
    obtain ⟨u, hu, e1, e2, tb, er⟩ := ok.at_ D.s4 D.hT k
    have hn := D.nm
    rw [hn] at hu
    have el : lkpD (M.see ((s : Nat) : Int).toNat) os (fstP ot) = lkpR u (fstP ot) := by rw [es]; unfold lkpD; rw [hu]
    refine .inr ⟨s, t, T, rfl, D, hact, Stay.of rfl (fun _ _ _ _ _ => rfl), ?_⟩
    have f := klkp_rf tb (fstP_wf ot)
    simp only [el]
    refine ⟨f.2, by rw [er, ← e1]; exact f.1, fun h0 => ?_⟩
    unfold LkA
    rw [er, ← e1]
    exact klkp_ok tb (fstP_wf ot) h0
  | oth _ h => omega
  | _ => omega
theorem MuOp.d11 (ok : MuOk M) (k : MuK M) (hop : MuOp M a bb cc os ot kd N an) (hk : kd = 11) : DtE M N a os 1 an.e ∨ ∃ (s t : Nat) (T : Tb), a = s ∧ DtO M N s t T os 1 ∧ M.act s = true ∧ Stay M N ∧ Late an.e := by
  cases hop with
  | scN z h0 hz => exact .inl ⟨h0, hz, rfl⟩
  | scY hz =>
    obtain ⟨s, t, T, rfl, D, hact⟩ := DtO.of (N := M.setL a.toNat os 1) ok hz rfl rfl (fun s e => by rw [e]; rfl)
    have es : ((s : Nat) : Int).toNat = s := by omega
    obtain ⟨u, hu, e1, e2, tb, er⟩ := ok.at_ D.s4 D.hT k
    have hn := D.nm
    rw [hn] at hu
    refine .inr ⟨s, t, T, rfl, D, hact, Stay.of rfl (fun _ _ _ _ _ => rfl), ?_⟩
    simp only [es]
    unfold scnD
    rw [hu]
    simp only
    split
    · simp only; unfold Late; omega
    · simp only; exact scn_late tb _ _ _
  | oth _ h => omega
  | _ => omega
end
end Go.Proofs.Qxb6500414aGreat
