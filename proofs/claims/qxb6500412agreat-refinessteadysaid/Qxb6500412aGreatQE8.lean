/-
  OWN WORK. QUERY's MODEL: what run's calls answer, by the state (written by tools/gen_qe8.py).
-/
import Derived.Test.Qxb6500412aGreatQE7
import Derived.Test.Qxb6500412aGreatS39
import Derived.Test.Qxb6500412aGreatQE3
import Derived.Test.Qxb6500412aGreatQE4
namespace Go.Proofs.Qxb6500412aGreat
open Go.RowKit Go.PlainAid
set_option linter.unusedSimpArgs false
set_option linter.unusedVariables false

def vl0 : Vl := ⟨false, 0, ⟨#[]⟩⟩
section
variable {w w' : World} {q : Nat} {M : Mu} {H : Nat → Prop} {s : Int} {nm : ByteArray} {u : Tb} {st : St} {hit : List (List Vl)} {i : Nat} {r : List Vl}
theorem MX.mdb0 (X : MX w q M H) : ∃ v l, MDb w q 0 v l M.com := by
  obtain ⟨Z, h, hS, hA⟩ := X.ex
  exact ⟨Z.v 0, Z.l 0, h.c0, h.ml 0 (by omega), hS.com, hS.cok⟩
/-- SchemaOf of what is committed. -/
theorem mschQ_any (X : MX w q M H) (nm : ByteArray) : Calls Tryz.prog 181 #[.pointer (some ⟨q, 0, none⟩), .string nm] w fun e w' => ∃ v, e = .returned v ∧ ∃ ca cn cc, v = .tuple #[.agg #[.string (scqD M.com nm).nm, .slice ca cn cc, .int .i64 (scqD M.com nm).pk, .int .i64 (scqD M.com nm).ix], .int .i64 (scqD M.com nm).z] ∧ OwnC w' (.slice ca cn cc) (scqD M.com nm).cols ∧ Newer w (.slice ca cn cc) ∧ (scqD M.com nm).cols.length ≤ 3 ∧ Only (fun _ => False) w w' := by
  obtain ⟨v, l, D⟩ := X.mdb0
  unfold scqD
  cases hf : findD M.com nm with
  | none =>
    refine (mdbSchema_no D hf).mono ?_
    rintro e w' ⟨rfl, o⟩
    exact ⟨_, rfl, none, 0, 0, rfl, World.ownsRow_nil _ _ _ _, (fun b hb => by cases hb), Nat.zero_le _, o⟩
  | some t =>
    refine (mdbSchema_yes D hf).mono ?_
    rintro e w' ⟨z, rfl, hC, hz, o⟩
    exact ⟨_, rfl, some ⟨z, 0, none⟩, _, _, rfl, hC, (fun b hb => by simp [Value.ownBlock] at hb; omega), (D.ok.tb t (findD_mem hf).1).n3, o⟩
/-- The scan of a whole table. -/
theorem mscanQ_any (X : MX w q M H) (hin : M.inT s = 0) (hu : findD (M.see s.toNat) nm = some u) (ok : TbOk u) : Calls Tryz.prog 277 #[.pointer (some ⟨q, 0, none⟩), .int .i64 s, .string nm, .int .i64 (u.pk : Int), bdA false vl0, bdA false vl0] w fun e w' => ∃ v, e = .returned v ∧ ∃ ra rn rc Z H' lim, v = .tuple #[.slice ra rn rc, .int .i64 (M.tkE s nm 1)] ∧ RL lim (.slice ra rn rc) Z w' ∧ Z.map (·.2) = (if M.tkE s nm 1 = 0 then scnL u u.pk (bndOf false vl0) (bndOf false vl0) else []) ∧ MX w' q (if M.tkE s nm 1 = 0 then M.setL s.toNat nm 1 else M) H' ∧ (∀ b, H' b → b < lim) ∧ (∀ b, H' b → H b ∨ w.heap.size ≤ b) ∧ w.heap.size ≤ lim ∧ lim ≤ w'.heap.size ∧ Only H w w' := by
  refine (xmscan_any X s nm (u.pk : Int) false false vl0 vl0 wf0 wf0).mono ?_
  rintro e w' (⟨z, hz, ht, w1, X1, o1, v, Z, rfl, hZ, hown, hrow, hnb, o2, hap⟩ | ⟨ht, w1, X1, o1, v, Z, rfl, hZ, hown, hrow, hnb, o2, hap⟩)
  · rw [Mu.tkE_iff] at ht
    have hz' : M.tkE s nm 1 ≠ 0 := by rw [← ht]; exact hz
    obtain ⟨ra, rc, hv⟩ := ownsRow_shape hown
    refine ⟨_, rfl, ra, Z.length, rc, Z, _, w1.heap.size, by rw [hv, ht], ?_, ?_, ?_, fun b hb => X1.lt b hb, fun b hb => hb.imp id (fun c => c.1), o1.size, o2.size, o1.trans (o2.mono (fun _ _ e => e.elim)) (fun _ _ e => e)⟩
    · rw [← hv]; exact ⟨hown, fun z hz => ⟨(hrow z hz).1, fun b hb => (hrow z hz).2 b hb⟩, fun b hb => hnb b hb, hap⟩
    · rw [if_neg hz']; exact hZ
    · rw [if_neg hz']; exact X1.quiet o2
  · rw [Mu.tkE_iff] at ht
    obtain ⟨ra, rc, hv⟩ := ownsRow_shape hown
    have hsc : scnD (M.see s.toNat) nm (u.pk : Int) (bndOf false vl0) (bndOf false vl0) = (scnL u u.pk (bndOf false vl0) (bndOf false vl0), 0) := by
      have h0 : scnE u (u.pk : Int) (bndOf false vl0) (bndOf false vl0) = 0 := scnE_ok (t := u) (wh := []) (col := u.pk) (fun c hc => by cases hc) ok.pkn (.inl rfl)
      unfold scnD
      rw [hu]
      simp only [h0, if_true, Int.toNat_natCast]
    rw [hsc] at hZ
    refine ⟨_, rfl, ra, Z.length, rc, Z, _, w1.heap.size, by rw [hsc, hv, ← ht], ?_, ?_, ?_, fun b hb => X1.lt b hb, fun b hb => hb.imp id (fun c => c.1), o1.size, o2.size, o1.trans (o2.mono (fun _ _ e => e.elim)) (fun _ _ e => e)⟩
    · rw [← hv]; exact ⟨hown, fun z hz => ⟨(hrow z hz).1, fun b hb => (hrow z hz).2 b hb⟩, fun b hb => hnb b hb, hap⟩
    · rw [if_pos ht.symm]; exact hZ
    · rw [if_pos ht.symm]; exact X1.quiet o2
/-- One change. -/
theorem mchg_step (G : DGd (M.see s.toNat)) (hf : findD (M.see s.toNat) st.table = some u) (hs : SetOk u.cols u.pk st.sets) (hh : hit.Sublist u.rows) (hr : hit[i]? = some r) {f : Db → Db × Int} (hfe : ∀ D, f D = chg1 u st D r) {e : Ending} {w' : World} (h : MwP w q (MiQ M s st u hit i) H s st.table f e w') : e = .returned (.int .i64 (M.tkE s st.table 2)) ∧ MX w' q (MiQ M s st u hit (i + 1)) (Ext H w w') ∧ Only H w w' := by
  rcases h with ⟨z, rfl, hz, ht, hR, ho⟩ | ⟨z, rfl, ht, hz, hR, ho⟩
  · rw [Mu.tkE_iff, MiQ_tk] at ht
    have hz' : M.tkE s st.table 2 ≠ 0 := by rw [← ht]; exact hz
    refine ⟨by rw [ht], ?_, ho⟩
    rw [MiQ_no hz'] at hR ⊢
    exact hR
  · rw [Mu.tkE_iff, MiQ_tk] at ht
    obtain ⟨k1, k2⟩ := chg_at G hf rfl rfl hs hh hr
    rw [MiQ_see ht.symm, hfe] at hz hR
    rw [k1] at hz
    rw [k2, MiQ_next ht.symm] at hR
    exact ⟨by rw [hz, ← ht], hR, ho⟩
theorem tk0_bars {mode : Int} (hin : M.inT s = 0) (h0 : M.tkE s nm mode = 0) : ¬ M.bars s.toNat nm mode := by
  intro d
  unfold Mu.tkE at h0
  rw [if_neg (fun e => e hin)] at h0
  split at h0
  · omega
  · omega
theorem MiQ_end (hlen : i = hit.length) : (chgQ M s st u hit).1 = MiQ M s st u hit i := by
  unfold chgQ MiQ
  by_cases h1 : hit = []
  · rw [if_pos h1, if_pos (.inl (by rw [hlen, h1]; rfl))]
  · have h2 : i ≠ 0 := fun c => h1 (List.eq_nil_of_length_eq_zero (by omega))
    rw [if_neg h1]
    by_cases h3 : M.tkE s st.table 2 ≠ 0
    · rw [if_pos h3, if_pos (.inr h3)]
    · rw [if_neg h3, if_neg (fun c => c.elim h2 h3), hlen, List.take_length]
theorem chgQ_ok (h : hit = [] ∨ M.tkE s st.table 2 = 0) : (chgQ M s st u hit).2 = Rs.cnt (hit.length : Int) := by
  unfold chgQ
  by_cases h1 : hit = []
  · rw [if_pos h1, h1]; rfl
  · rw [if_neg h1, if_neg (fun c => c (h.resolve_left h1))]
theorem chgQ_busy (h1 : hit ≠ []) (h2 : M.tkE s st.table 2 ≠ 0) : chgQ M s st u hit = (M, Rs.err (M.tkE s st.table 2)) := by
  unfold chgQ
  rw [if_neg h1, if_pos h2]
theorem chgT_nm (l : List (List Vl)) : (chgT u st u l).nm = u.nm := rfl
/-- The state between two changes is sound. -/
theorem MuOk.chg (ok : MuOk M) (h4 : s.toNat < 4) (ha : M.act s.toNat = true) (hin : M.inT s = 0) (hf : findD (M.see s.toNat) st.table = some u) (hs : SetOk u.cols u.pk st.sets) (hh : hit.Sublist u.rows) (hi : i ≤ hit.length) : MuOk (MiQ M s st u hit i) := by
  unfold MiQ
  by_cases c : i = 0 ∨ M.tkE s st.table 2 ≠ 0
  · rw [if_pos c]; exact ok
  · rw [if_neg c]
    have h0 : M.tkE s st.table 2 = 0 := Classical.byContradiction (fun d => c (.inr d))
    have hb : ¬ M.bars s.toNat st.table 2 := by
      intro d
      unfold Mu.tkE at h0
      rw [if_neg (fun e => e hin)] at h0
      split at h0
      · omega
      · omega
    have ok2 := ok.lock h4 ha hb (.inr rfl)
    have G := ok.gs s.toNat h4
    obtain ⟨h1, h2, _⟩ := chg_inv G hf rfl rfl hs hh i hi
    rw [h1]
    have hn : u.nm = st.table := (findD_mem hf).2
    have l2 := setL2 ok h4 st.table
    exact ok2.put (t := chgT u st u (hit.take i)) h4 l2 h2 hn (by show findD (M.see s.toNat) st.table ≠ none; rw [hf]; simp)
end
def pickZ (b : Bool) (z : Value × List Vl) : List (Value × List Vl) := if b = true then [z] else []
/-- The schema laid in a block of its own. -/
def ScmP (sc : Scq) (w1 : World) (kv ev : Value) (wx : World) : Prop := ∃ kb ca cn cc, kv = .pointer (some ⟨kb, 0, none⟩) ∧ ev = .int .i64 sc.z ∧ w1.heap.size ≤ kb ∧ Has wx kb #[.string sc.nm, .slice ca cn cc, .int .i64 sc.pk, .int .i64 sc.ix] 79 ∧ OwnC wx (.slice ca cn cc) sc.cols ∧ (∀ b, (Value.slice ca cn cc).ownBlock = some b → w1.heap.size ≤ b) ∧ Only (fun _ => False) w1 wx
/-- The blocks that run reads all along. -/
def RnB (G kb : Nat) (cv v4 v5 v7 : Value) (b : Nat) : Prop := b = G ∨ b = G + 1 ∨ b = kb ∨ cv.ownBlock = some b ∨ v4.ownBlock = some b ∨ v5.ownBlock = some b ∨ v7.ownBlock = some b
structure RnI (w : World) (H0 : Nat → Prop) (G kb : Nat) (sv sc : Array Value) (cv : Value) (cols : List Cl) (v4 v5 v7 : Value) (m : Ms) (wr : World) : Prop where
  sv : Has wr G sv 253
  rb : Has wr (G + 1) #[.int .i64 0, .int .i64 0, .slice none 0 0, .slice none 0 0] 52
  sc : Has wr kb sc 79
  oc : OwnC wr cv cols
  o4 : OwnN wr v4 m.names
  o5 : OwnV wr v5 m.vals
  o7 : OwnSm wr v7 m.wh
  on : Only H0 w wr
section
variable {w wr wx : World} {H0 B : Nat → Prop} {G kb : Nat} {sv sc : Array Value} {cv v4 v5 v7 : Value} {cols : List Cl} {m : Ms}
theorem RnI.keep (h : RnI w H0 G kb sv sc cv cols v4 v5 v7 m wr) (o : Only B wr wx) (hB : ∀ b, RnB G kb cv v4 v5 v7 b → ¬ B b) (hn : ∀ b, b < w.heap.size → B b → H0 b) : RnI w H0 G kb sv sc cv cols v4 v5 v7 m wx :=
  ⟨h.sv.keep o (hB _ (.inl rfl)), h.rb.keep o (hB _ (.inr (.inl rfl))), h.sc.keep o (hB _ (.inr (.inr (.inl rfl)))), h.oc.keep o (fun b hb => hB b (.inr (.inr (.inr (.inl hb))))), ownsRow_keep h.o4 o (fun b hb => hB b (.inr (.inr (.inr (.inr (.inl hb)))))), h.o5.keep o (fun b hb => hB b (.inr (.inr (.inr (.inr (.inr (.inl hb))))))), h.o7.keep o (fun b hb => hB b (.inr (.inr (.inr (.inr (.inr (.inr hb))))))), h.on.trans o hn⟩
theorem RnI.quiet (h : RnI w H0 G kb sv sc cv cols v4 v5 v7 m wr) (o : Only (fun _ => False) wr wx) : RnI w H0 G kb sv sc cv cols v4 v5 v7 m wx := h.keep o (fun _ _ e => e) (fun _ _ e => e.elim)
theorem RnI.lt (h : RnI w H0 G kb sv sc cv cols v4 v5 v7 m wr) : ∀ b, RnB G kb cv v4 v5 v7 b → b < wr.heap.size := by
  rintro b (e | e | e | e | e | e | e)
  · rw [e]; exact h.sv.lt
  · rw [e]; exact h.rb.lt
  · rw [e]; exact h.sc.lt
  · exact ownsRow_lt h.oc b e
  · exact ownsRow_lt h.o4 b e
  · exact ownsRow_lt h.o5 b e
  · exact ownsRow_lt h.o7 b e
end
end Go.Proofs.Qxb6500412aGreat
