/-
  OWN WORK. THE TXN LAW: the reading calls as the law plays them.
-/
import Derived.Test.Qxb6500414aGreatXL5
namespace Go.Proofs.Qxb6500414aGreat
open Go.RowKit Go.PlainAid
set_option linter.unusedSimpArgs false
set_option linter.unusedVariables false

section
variable {q : Gnd} {w w0 w' w1 w2 wF : World} {g x : Nat} {M M' : Mu} {K : Nat → Prop} {kd a bb cc : Int} {s t : ByteArray} {an : An} {m : AnM} {e : Ending}
theorem RX.dg (R : RX q w g x M K) : DGd M.com ∧ ∀ o, o < 4 → DGd (M.see o) := by
  obtain ⟨X, S, T, hx, la, cf, ok, sh, hk⟩ := R.ex
  refine ⟨by rw [sh.com]; exact ok.db, fun o ho => ?_⟩
  rw [sh.see o ho]
  exact (ok.ws o ho).see ok.db
/-- An answer that was read. -/
theorem PrP.obs {B : Nat → Prop} (R : RX q w g x M K) (r : RX q w1 g x M' K) (o1 : Only (fun k => q.S k ∨ K k) w w1) (hc : M'.com = M.com) (hop : MuOp M a bb cc s t kd M' an) (o2 : Only B w1 w2) (hB : ∀ k, B k → w.heap.size ≤ k) (A : AnAt w2 m an) (hA : ∀ k, AnB m k → w1.heap.size ≤ k) : PrP q w g x M K kd a bb cc s t (.returned (.agg (anC m an))) w2 := by
  have s1 := o1.size
  have hx := R.Alt
  refine ⟨M', an, m, rfl, hop, A, fun k h => by have := hA k h; omega, .inl ⟨K, r.keep o2 (fun k h c => ?_), fun k h => .inl h, fun k h => ⟨fun c => ?_, fun c => ?_⟩, hc, Only.late o1 o2 hB⟩⟩
  · have hb := hB k c
    rcases h with h | h | h
    · have := hx.1 k h; omega
    · have := hx.2; omega
    · have := (R.kA k h).2.2; omega
  · have := (R.kA k c).2.2; have := hA k h; omega
  · have := hx.1 k c; have := hA k h; omega
/-- What a reading call has left. -/
def PrO (q : Gnd) (w : World) (g x : Nat) (M : Mu) (K : Nat → Prop) (kd a bb cc : Int) (s t : ByteArray) (an : An) (w' : World) : Prop := ∃ M', RX q w' g x M' K ∧ Only (fun k => q.S k ∨ K k) w w' ∧ M'.com = M.com ∧ MuOp M a bb cc s t kd M' an
theorem xlkp_len {D : Db} (G : DGd D) (nm : ByteArray) (key : Vl) : (lkpD D nm key).1.length ≤ 1000 := by
  unfold lkpD
  cases h : findD D nm with
  | none => simp
  | some t =>
    obtain ⟨ht, _⟩ := findD_mem h
    unfold lkpR
    simp only
    split
    · simp
    · cases h2 : fndK t (cV key) with
      | none => simp
      | some r =>
        simp only
        have := (G.tb t ht).row r (fndK_some h2).1
        rw [this.len]
        have := (G.tb t ht).n3
        omega
theorem scn_bd {D : Db} (G : DGd D) (nm : ByteArray) (col : Int) (lo hi : Bnd) : (scnD D nm col lo hi).1.length ≤ 8 ∧ ∀ r ∈ (scnD D nm col lo hi).1, r.length ≤ 1000 := by
  unfold scnD
  cases h : findD D nm with
  | none => simp
  | some t =>
    obtain ⟨ht, _⟩ := findD_mem h
    simp only
    split
    · refine ⟨scnL_len (G.tb t ht) _ _ _, fun r hr => ?_⟩
      have := (G.tb t ht).row r (scn_sub hr)
      rw [this.len]
      have := (G.tb t ht).n3
      omega
    · simp
theorem tkz_good {M : Mu} {nm : ByteArray} {mode : Int} (h : M.TkZ a nm mode 0) : ∃ n : Nat, a = n ∧ n < 4 ∧ M.inT a = 0 := by
  have hi : M.inT a = 0 := by
    rcases h with ⟨h1, h2⟩ | ⟨h1, _⟩ | ⟨h1, _⟩ | ⟨h1, _⟩
    · exact absurd h2.symm h1
    · exact h1
    · exact h1
    · exact h1
  unfold Mu.inT at hi
  by_cases g : gdS a
  · have h1 := g.1
    have h2 := g.2
    exact ⟨a.toNat, by omega, by omega, by unfold Mu.inT; exact hi⟩
  · rw [if_neg g] at hi; cases hi
theorem q10_any (R : RX q w g x M K) (a bb cc : Int) (s t : ByteArray) : Calls Tryz.prog 55 #[.pointer (some ⟨g, 0, none⟩), .int .i64 a, .string s, vlA (fstP t)] w fun e w' => ∃ v z row, e = .returned (.tuple #[v, .int .i64 z]) ∧ OwnV w' v row ∧ Newer w v ∧ row.length ≤ 1000 ∧ PrO q w g x M K 10 a bb cc s t { An.z with e := z, row := row } w' :=
  (rlookup_any R a s (fstP t) (fstP_wf t)).mono (by
    rintro e w1 (⟨z, he, h0, hz, r, ho⟩ | ⟨v, he, hz, hv, hw, r, ho⟩)
    · exact ⟨_, z, [], he, OwnV.nil _, (fun k h => by cases h), by simp, M, r, ho, rfl, .lkN z h0 hz⟩
    · obtain ⟨n, hn, hn4, _⟩ := tkz_good hz
      refine ⟨v, _, _, he, hv, hw, xlkp_len (R.dg.2 a.toNat (by omega)) s (fstP t), _, r, ho, rfl, .lkY hz⟩)
theorem q11_any (R : RX q w g x M K) (a bb cc : Int) (s t : ByteArray) : Calls Tryz.prog 59 #[.pointer (some ⟨g, 0, none⟩), .int .i64 a, .string s, .int .i64 bb, bdA (bits BinOp.and IntKind.i64 cc 1 != 0) (fstP t), bdA (bits BinOp.and IntKind.i64 cc 2 != 0) (sndP t)] w fun e w' => ∃ v z Z, e = .returned (.tuple #[v, .int .i64 z]) ∧ RL w.heap.size v Z w' ∧ Z.length ≤ 8 ∧ (∀ y ∈ Z, y.2.length ≤ 1000) ∧ PrO q w g x M K 11 a bb cc s t { An.z with e := z, rows := Z.map (·.2) } w' :=
  (rscan_any R a s bb _ _ (fstP t) (sndP t) (fstP_wf t) (sndP_wf t)).mono (by
    rintro e w1 (⟨z, he, h0, hz, r, ho⟩ | ⟨v, Z, he, hz, hv, hm, r, ho⟩)
    · exact ⟨_, z, [], he, RL.nil _ _, by simp, by simp, M, r, ho, rfl, .scN z h0 hz⟩
    · obtain ⟨n, hn, hn4, _⟩ := tkz_good hz
      have hb := scn_bd (R.dg.2 a.toNat (by omega)) s bb (bndOf (bits BinOp.and IntKind.i64 cc 1 != 0) (fstP t)) (bndOf (bits BinOp.and IntKind.i64 cc 2 != 0) (sndP t))
      rw [← hm] at hb
      refine ⟨v, _, Z, he, hv, by rw [List.length_map] at hb; exact hb.1, fun y hy => hb.2 _ (List.mem_map.mpr ⟨y, hy, rfl⟩), _, r, ho, rfl, ?_⟩
      rw [hm]
      exact .scY hz)
theorem q14_any (R : RX q w g x M K) (a bb cc : Int) (s t : ByteArray) : Calls Tryz.prog 65 #[.pointer (some ⟨g, 0, none⟩), .int .i64 a, .string s] w fun e w' => ∃ v z Z, e = .returned (.tuple #[v, .int .i64 z]) ∧ RL w.heap.size v Z w' ∧ Z.length ≤ 8 ∧ (∀ y ∈ Z, y.2.length ≤ 1000) ∧ PrO q w g x M K 14 a bb cc s t { An.z with e := z, rows := Z.map (·.2) } w' :=
  (rview_any R a s).mono (by
    rintro e w1 ⟨r, ho, h⟩
    have ho' := ho.mono (T := fun k => q.S k ∨ K k) (fun k _ h => .inl h)
    have hop : ∀ {an : An}, anV M a s = an → MuOp M a bb cc s t 14 M an := fun h => h ▸ .vie
    rcases h with ⟨hs, he⟩ | ⟨hs, hf, he⟩ | ⟨u, v, Z, hs, hf, hf2, he, hr, hz⟩
    · exact ⟨_, 20, [], he, RL.nil _ _, by simp, by simp, M, r, ho', rfl, hop (by unfold anV; rw [if_neg hs]; rfl)⟩
    · exact ⟨_, 10, [], he, RL.nil _ _, by simp, by simp, M, r, ho', rfl, hop (by unfold anV; rw [if_pos hs, hf]; rfl)⟩
    · have h4 : a.toNat < 4 := by have := hs.1; have := hs.2; omega
      have ok := (R.dg.2 a.toNat h4).tb u (findD_mem hf).1
      have hl : Z.length ≤ 8 := by have e := congrArg List.length hz; rw [List.length_map] at e; rw [e]; exact ok.len
      refine ⟨v, 0, Z, he, hr, hl, fun y hy => ?_, M, r, ho', rfl, hop ?_⟩
      · have : y.2 ∈ u.rows := by rw [← hz]; exact List.mem_map.mpr ⟨y, hy, rfl⟩
        rw [(ok.row _ this).len]
        have := ok.n3
        omega
      · unfold anV
        rw [if_pos hs, hf, hz]
        cases hc : findD M.com s with
        | none => exact absurd hc hf2
        | some _ => rfl)
theorem q15_any (R : RX q w g x M K) (a bb cc : Int) (s t : ByteArray) : Calls Tryz.prog 66 #[.pointer (some ⟨g, 0, none⟩), .string s] w fun e w' => ∃ nm cv pk ix z cols, e = .returned (.tuple #[.agg #[.string nm, cv, .int .i64 pk, .int .i64 ix], .int .i64 z]) ∧ OwnC w' cv cols ∧ Newer w cv ∧ cols.length ≤ 3 ∧ PrO q w g x M K 15 a bb cc s t { An.z with e := z, nm := nm, cols := cols, pk := pk, ix := ix } w' :=
  (rschemaOf_any R s).mono (by
    rintro e w1 ⟨r, ho, h⟩
    have ho' := ho.mono (T := fun k => q.S k ∨ K k) (fun k _ h => .inl h)
    have hop : ∀ {an : An}, anS M.com s = an → MuOp M a bb cc s t 15 M an := fun h => h ▸ .sch
    rcases h with ⟨hf, he⟩ | ⟨u, cv, hf, he, hc, hn⟩
    · exact ⟨⟨#[]⟩, .slice none 0 0, 0, -1, 10, [], he, OwnC.nil _, (fun k h => by cases h), by simp, M, r, ho', rfl, hop (by unfold anS; rw [hf]; rfl)⟩
    · exact ⟨u.nm, cv, _, _, 0, u.cols, he, hc, hn, (R.dg.1.tb u (findD_mem hf).1).n3, M, r, ho', rfl, hop (by unfold anS; rw [hf]; rfl)⟩)
theorem q16_any (R : RX q w g x M K) (a bb cc : Int) (s t : ByteArray) : Calls Tryz.prog 68 #[.pointer (some ⟨g, 0, none⟩)] w fun e w' => ∃ v N, e = .returned v ∧ OwnN w' v N ∧ Newer w v ∧ N.length ≤ 3 ∧ PrO q w g x M K 16 a bb cc s t { An.z with names := N } w' :=
  (rtables_any R).mono (by
    rintro e w1 ⟨v, he, h1, h2, r, ho⟩
    exact ⟨v, _, he, h1, h2, by unfold namesD; rw [List.length_map]; exact R.dg.1.len, M, r, ho.mono (fun k _ h => .inl h), rfl, .tab⟩)
end
end Go.Proofs.Qxb6500414aGreat
