/-
  OWN WORK. QUERY: change (written by tools/gen_s37.py).
-/
import Derived.Test.Qxb6500412aGreatS35
import Derived.Test.Qxb6500412aGreatS36
namespace Go.Proofs.Qxb6500412aGreat
open Go.RowKit Go.PlainAid
set_option linter.unusedSimpArgs false
set_option linter.unusedVariables false

/-- UPDATE's and DELETE's end. -/
noncomputable def chgQ (M : Mu) (s : Int) (st : St) (u : Tb) (hit : List (List Vl)) : Mu × Rs :=
  if hit = [] then (M, Rs.cnt 0) else if M.tkE s st.table 2 ≠ 0 then (M, Rs.err (M.tkE s st.table 2)) else ((M.setL s.toNat st.table 2).setV s.toNat (chgD u st (M.see s.toNat) hit), Rs.cnt (hit.length : Int))
/-- The state behind the first i changes. -/
noncomputable def MiQ (M : Mu) (s : Int) (st : St) (u : Tb) (hit : List (List Vl)) (i : Nat) : Mu := if i = 0 ∨ M.tkE s st.table 2 ≠ 0 then M else (M.setL s.toNat st.table 2).setV s.toNat (chgD u st (M.see s.toNat) (hit.take i))
/-- The rows' blocks. -/
def Zb (Z : List (Value × List Vl)) (b : Nat) : Prop := ∃ z ∈ Z, z.1.ownBlock = some b
/-- What change answers. -/
def ChP (q : Gnd) (w : World) (k g x : Nat) (Z : List (Value × List Vl)) (K : Nat → Prop) (last : Int) (R : Mu × Rs) (e : Ending) (w' : World) : Prop :=
  e = .returned (.agg #[.int .i64 R.2.e, .int .i64 R.2.n, .slice none 0 0, .slice none 0 0]) ∧ R.2.cols = [] ∧ R.2.rows = [] ∧ ∃ K', QR q w' k g x R.1 K' last ∧ (∀ b, K' b → K b ∨ w.heap.size ≤ b) ∧ Only (fun b => q.S b ∨ K b ∨ Zb Z b) w w'
section
variable {q : Gnd} {w : World} {k g x : Nat} {M : Mu} {K : Nat → Prop} {s : Int} {st : St} {u : Tb} {hit : List (List Vl)} {i : Nat} {r : List Vl}
theorem MiQ_tk : (MiQ M s st u hit i).tkE s st.table 2 = M.tkE s st.table 2 := by
  unfold MiQ
  split
  · rfl
  · rw [setV_tkE, setL_tkE]
theorem MiQ_see (h0 : M.tkE s st.table 2 = 0) : (MiQ M s st u hit i).see s.toNat = chgD u st (M.see s.toNat) (hit.take i) := by
  unfold MiQ
  by_cases c : i = 0
  · rw [if_pos (.inl c), c]
    rfl
  · rw [if_neg (fun d => d.elim c (fun d => d h0)), setV_see]
theorem MiQ_next (h0 : M.tkE s st.table 2 = 0) : ((MiQ M s st u hit i).setL s.toNat st.table 2).setV s.toNat (chgD u st (M.see s.toNat) (hit.take (i + 1))) = MiQ M s st u hit (i + 1) := by
  have e : MiQ M s st u hit (i + 1) = (M.setL s.toNat st.table 2).setV s.toNat (chgD u st (M.see s.toNat) (hit.take (i + 1))) := by
    unfold MiQ
    rw [if_neg (fun d => d.elim (by omega) (fun d => d h0))]
  rw [e]
  unfold MiQ
  by_cases c : i = 0
  · rw [if_pos (.inl c)]
  · rw [if_neg (fun d => d.elim c (fun d => d h0)), setV_setL, setV_setV, setL_twice]
theorem MiQ_no (h0 : M.tkE s st.table 2 ≠ 0) (j : Nat) : MiQ M s st u hit j = M := by
  unfold MiQ
  rw [if_pos (.inr h0)]
theorem setR_len {cols : List Cl} : ∀ (sets : List Cm) (r : List Vl), (setR cols sets r).length = r.length
  | [], r => rfl
  | c :: l, r => by
    show (setR cols l (r.set _ _)).length = _
    rw [setR_len l, List.length_set]
/-- One change. -/
theorem qchg_step (G : DGd (M.see s.toNat)) (hf : findD (M.see s.toNat) st.table = some u) (hs : SetOk u.cols u.pk st.sets) (hh : hit.Sublist u.rows) (hr : hit[i]? = some r) {f : Db → Db × Int} (hfe : ∀ D, f D = chg1 u st D r) {e : Ending} {w' : World} (h : RwP q w g x (MiQ M s st u hit i) K s st.table f e w') : e = .returned (.int .i64 (M.tkE s st.table 2)) ∧ Rp q w g x (MiQ M s st u hit (i + 1)) K w' := by
  rcases h with ⟨z, rfl, hz, ht, hR⟩ | ⟨z, rfl, ht, hz, hR⟩
  · rw [Mu.tkE_iff, MiQ_tk] at ht
    have hz' : M.tkE s st.table 2 ≠ 0 := by rw [← ht]; exact hz
    refine ⟨by rw [ht], ?_⟩
    rw [MiQ_no hz'] at hR ⊢
    exact hR
  · rw [Mu.tkE_iff, MiQ_tk] at ht
    obtain ⟨k1, k2⟩ := chg_at G hf rfl rfl hs hh hr
    rw [MiQ_see ht.symm, hfe] at hz hR
    rw [k1] at hz
    rw [k2, MiQ_next ht.symm] at hR
    exact ⟨by rw [hz, ← ht], hR⟩
end
/-- The copies of schema and statement, the result's block, the lists, the rows' list. -/
structure CgI (q : Gnd) (w : World) (k g x lo : Nat) (K : Nat → Prop) (H : Nat) (sc sv : Array Value) (cv : Value) (cols : List Cl) (v7 : Value) (sets : List Cm) (hv : Value) (Z : List (Value × List Vl)) (wr : World) : Prop where
  sc : Has wr H sc 79
  sv : Has wr (H + 1) sv 173
  rb : Has wr (H + 2) #[.int .i64 0, .int .i64 0, .slice none 0 0, .slice none 0 0] 52
  oc : OwnC wr cv cols
  o7 : OwnM wr v7 sets
  oh : wr.ownsRow 0 95 1 hv Z.length (Z.map (·.1))
  on : Only (fun b => q.S b ∨ K b ∨ Zb Z b) w wr
section
variable {q : Gnd} {w wr wx : World} {k g x lo : Nat} {M : Mu} {K Ki : Nat → Prop} {last : Int} {s : Int} {S : Sq} {st : St} {u : Tb} {ca ha : Option Addr} {cn cc hn hc : Nat} {tn : ByteArray} {ix : Int} {H : Nat} {sc sv : Array Value} {cv v7 hv : Value} {cols : List Cl} {sets : List Cm} {Z : List (Value × List Vl)}
theorem CgI.keep {B : Nat → Prop} (h : CgI q w k g x lo K H sc sv cv cols v7 sets hv Z wr) (o : Only B wr wx) (hB : ∀ b, b = H ∨ b = H + 1 ∨ b = H + 2 ∨ cv.ownBlock = some b ∨ v7.ownBlock = some b ∨ hv.ownBlock = some b → ¬ B b) (hon : Only (fun b => q.S b ∨ K b ∨ Zb Z b) w wx) : CgI q w k g x lo K H sc sv cv cols v7 sets hv Z wx :=
  ⟨h.sc.keep o (hB _ (.inl rfl)), h.sv.keep o (hB _ (.inr (.inl rfl))), h.rb.keep o (hB _ (.inr (.inr (.inl rfl)))), h.oc.keep o (fun b hb => hB b (.inr (.inr (.inr (.inl hb))))), h.o7.keep o (fun b hb => hB b (.inr (.inr (.inr (.inr (.inl hb)))))), ownsRow_keep h.oh o (fun b hb => hB b (.inr (.inr (.inr (.inr (.inr hb)))))), hon⟩
theorem CgI.quiet (h : CgI q w k g x lo K H sc sv cv cols v7 sets hv Z wr) (o : Only (fun _ => False) wr wx) : CgI q w k g x lo K H sc sv cv cols v7 sets hv Z wx := h.keep o (fun _ _ e => e) (h.on.trans (o.mono (fun _ _ e => e.elim)) (fun _ _ e => e))
set_option maxRecDepth 100000 in
set_option maxHeartbeats 32000000 in
theorem sqchange_any (R : QR q w k g x M K last) (hin : M.inT s = 0) (hcom : findD M.com st.table ≠ none) (hu : findD (M.see s.toNat) st.table = some u) (hC : OwnC w (.slice ca cn cc) u.cols) (hCa : ∀ b, (Value.slice ca cn cc).ownBlock = some b → Apa q x k K b) (hS : StM q x k K w S st) (hset : SetOk u.cols u.pk st.sets) (hsl : st.sets.length ≤ 200) (hR : RL lo (.slice ha hn hc) Z w) (hZm : Z.map (·.2) = hitD u st.wh) (hap : ∀ b, lo ≤ b → Apa q x k K b) (hlo : lo ≤ w.heap.size) : Calls Tryz.prog 174 #[.pointer (some ⟨k, 0, none⟩), .int .i64 s, schU tn (.slice ca cn cc) (u.pk : Int) ix, .agg (tabV 13 S.cell), .slice ha hn hc] w (ChP q w k g x Z K last (chgQ M s st u (hitD u st.wh))) := by
  have G := R.rx.muQ.gs s.toNat (inT_good hin).2.1
  have ok := G.tb u (findD_mem hu).1
  unfold schU
  obtain ⟨a2, c2, a4, c4, a6, c6, a7, c7, a8, c8, hcs, _, _, _, x7, _, _, _, _, p7, _⟩ := hS.cells_
  rw [hcs]
  obtain ⟨hit, hhit⟩ : ∃ h, hitD u st.wh = h := ⟨_, rfl⟩
  have hsub : hit.Sublist u.rows := by rw [← hhit]; exact List.filter_sublist
  rw [hhit] at hZm ⊢
  have hzl : Z.length = hit.length := by rw [← hZm, List.length_map]
  have hh : hn = Z.length := by obtain ⟨_, _, e⟩ := ownsRow_shape hR.own; cases e; rfl
  have hn8 : hn ≤ 8 := by rw [hh, hzl]; exact Nat.le_trans hsub.length_le ok.len
  have hrow : ∀ z ∈ Z, z.2.length = u.cols.length := fun z hz => by
    have h2 : z.2 ∈ hit := by rw [← hZm]; exact List.mem_map.mpr ⟨z, hz, rfl⟩
    exact (ok.row _ (hsub.subset h2)).len
  have hfitr : ∀ z ∈ Z, ∀ v ∈ z.2, v.wf := fun z hz v hv => by
    have h2 : z.2 ∈ hit := by rw [← hZm]; exact List.mem_map.mpr ⟨z, hz, rfl⟩
    exact ((ok.row _ (hsub.subset h2)).2 v hv).1
  have hcl : u.cols.length ≤ 100 := by have := ok.n3; omega
  have o0 : Only (fun _ => False) w (w.alloc (.cells #[.string tn, .slice ca cn cc, .int .i64 (u.pk : Int), .int .i64 ix] 79)) := (Only.refl _ w).alloc _
  have o1 : Only (fun _ => False) (w.alloc (.cells #[.string tn, .slice ca cn cc, .int .i64 (u.pk : Int), .int .i64 ix] 79)) ((w.alloc (.cells #[.string tn, .slice ca cn cc, .int .i64 (u.pk : Int), .int .i64 ix] 79)).alloc (.cells #[.int .i64 st.kind, .string st.table, .slice a2 st.defs.length c2, .int .i64 st.pk, .slice a4 st.lits.length c4, .bool st.star, .slice a6 st.list.length c6, .slice a7 st.sets.length c7, .slice a8 st.wh.length c8, .string st.order, .bool st.desc, .bool st.hasL, .int .i64 st.lim] 173)) := (Only.refl _ _).alloc _
  have o2 : Only (fun _ => False) ((w.alloc (.cells #[.string tn, .slice ca cn cc, .int .i64 (u.pk : Int), .int .i64 ix] 79)).alloc (.cells #[.int .i64 st.kind, .string st.table, .slice a2 st.defs.length c2, .int .i64 st.pk, .slice a4 st.lits.length c4, .bool st.star, .slice a6 st.list.length c6, .slice a7 st.sets.length c7, .slice a8 st.wh.length c8, .string st.order, .bool st.desc, .bool st.hasL, .int .i64 st.lim] 173)) (((w.alloc (.cells #[.string tn, .slice ca cn cc, .int .i64 (u.pk : Int), .int .i64 ix] 79)).alloc (.cells #[.int .i64 st.kind, .string st.table, .slice a2 st.defs.length c2, .int .i64 st.pk, .slice a4 st.lits.length c4, .bool st.star, .slice a6 st.list.length c6, .slice a7 st.sets.length c7, .slice a8 st.wh.length c8, .string st.order, .bool st.desc, .bool st.hasL, .int .i64 st.lim] 173)).alloc (.cells #[.int .i64 0, .int .i64 0, .slice none 0 0, .slice none 0 0] 52)) := (Only.refl _ _).alloc _
  have N0 := Has.new w #[.string tn, .slice ca cn cc, .int .i64 (u.pk : Int), .int .i64 ix] 79
  have N1 := Has.new' (w.alloc (.cells #[.string tn, .slice ca cn cc, .int .i64 (u.pk : Int), .int .i64 ix] 79)) #[.int .i64 st.kind, .string st.table, .slice a2 st.defs.length c2, .int .i64 st.pk, .slice a4 st.lits.length c4, .bool st.star, .slice a6 st.list.length c6, .slice a7 st.sets.length c7, .slice a8 st.wh.length c8, .string st.order, .bool st.desc, .bool st.hasL, .int .i64 st.lim] 173 (w.heap.size + 1) (by simp)
  have N2 := Has.new' ((w.alloc (.cells #[.string tn, .slice ca cn cc, .int .i64 (u.pk : Int), .int .i64 ix] 79)).alloc (.cells #[.int .i64 st.kind, .string st.table, .slice a2 st.defs.length c2, .int .i64 st.pk, .slice a4 st.lits.length c4, .bool st.star, .slice a6 st.list.length c6, .slice a7 st.sets.length c7, .slice a8 st.wh.length c8, .string st.order, .bool st.desc, .bool st.hasL, .int .i64 st.lim] 173)) #[.int .i64 0, .int .i64 0, .slice none 0 0, .slice none 0 0] 52 (w.heap.size + 2) (by simp)
  have oA := (o0.trans o1 (fun _ _ e => e)).trans o2 (fun _ _ e => e)
  have own0 := hR.own
  have nbh := hR.nb
  have HA := hide (show CgI q w k g x lo K w.heap.size #[.string tn, .slice ca cn cc, .int .i64 (u.pk : Int), .int .i64 ix] #[.int .i64 st.kind, .string st.table, .slice a2 st.defs.length c2, .int .i64 st.pk, .slice a4 st.lits.length c4, .bool st.star, .slice a6 st.list.length c6, .slice a7 st.sets.length c7, .slice a8 st.wh.length c8, .string st.order, .bool st.desc, .bool st.hasL, .int .i64 st.lim] (.slice ca cn cc) u.cols (.slice a7 st.sets.length c7) st.sets (.slice ha hn hc) Z (((w.alloc (.cells #[.string tn, .slice ca cn cc, .int .i64 (u.pk : Int), .int .i64 ix] 79)).alloc (.cells #[.int .i64 st.kind, .string st.table, .slice a2 st.defs.length c2, .int .i64 st.pk, .slice a4 st.lits.length c4, .bool st.star, .slice a6 st.list.length c6, .slice a7 st.sets.length c7, .slice a8 st.wh.length c8, .string st.order, .bool st.desc, .bool st.hasL, .int .i64 st.lim] 173)).alloc (.cells #[.int .i64 0, .int .i64 0, .slice none 0 0, .slice none 0 0] 52)) ∧ QR q (((w.alloc (.cells #[.string tn, .slice ca cn cc, .int .i64 (u.pk : Int), .int .i64 ix] 79)).alloc (.cells #[.int .i64 st.kind, .string st.table, .slice a2 st.defs.length c2, .int .i64 st.pk, .slice a4 st.lits.length c4, .bool st.star, .slice a6 st.list.length c6, .slice a7 st.sets.length c7, .slice a8 st.wh.length c8, .string st.order, .bool st.desc, .bool st.hasL, .int .i64 st.lim] 173)).alloc (.cells #[.int .i64 0, .int .i64 0, .slice none 0 0, .slice none 0 0] 52)) k g x (MiQ M s st u hit 0) K last ∧ (∀ z ∈ Z, OwnV (((w.alloc (.cells #[.string tn, .slice ca cn cc, .int .i64 (u.pk : Int), .int .i64 ix] 79)).alloc (.cells #[.int .i64 st.kind, .string st.table, .slice a2 st.defs.length c2, .int .i64 st.pk, .slice a4 st.lits.length c4, .bool st.star, .slice a6 st.list.length c6, .slice a7 st.sets.length c7, .slice a8 st.wh.length c8, .string st.order, .bool st.desc, .bool st.hasL, .int .i64 st.lim] 173)).alloc (.cells #[.int .i64 0, .int .i64 0, .slice none 0 0, .slice none 0 0] 52)) z.1 z.2 ∧ ∀ b, z.1.ownBlock = some b → lo ≤ b) from ⟨⟨(N0.keep o1 (fun e => e)).keep o2 (fun e => e), N1.keep o2 (fun e => e), N2, hC.keep oA (fun _ _ e => e), x7.quiet oA, ownsRow_keep hR.own oA (fun _ _ e => e), oA.mono (fun _ _ e => e.elim)⟩, by unfold MiQ; rw [if_pos (.inl rfl)]; exact R.quiet oA, fun z hz => ⟨((hR.row z hz).1.keep oA (fun _ _ e => e)), (hR.row z hz).2⟩⟩)
  have HLT := hide (show (∀ b, (Value.slice ca cn cc).ownBlock = some b → Apa q x k K b ∧ b < w.heap.size) ∧ (∀ b, (Value.slice a7 st.sets.length c7).ownBlock = some b → Apa q x k K b ∧ b < w.heap.size) ∧ (∀ b, (Value.slice ha hn hc).ownBlock = some b → lo ≤ b ∧ b < w.heap.size) ∧ (∀ z ∈ Z, ∀ b, z.1.ownBlock = some b → lo ≤ b ∧ b < w.heap.size) from ⟨fun b hb => ⟨hCa b hb, ownsRow_lt hC b hb⟩, fun b hb => ⟨p7 b hb, ownsRow_lt x7 b hb⟩, fun b hb => ⟨nbh b hb, ownsRow_lt hR.own b hb⟩, fun z hz b hb => ⟨(hR.row z hz).2 b hb, ownsRow_lt (hR.row z hz).1 b hb⟩⟩)
  have HAPZ := hide hR.ap
  have HAP := hide (And.intro hap (And.intro hlo R.lts))
  have HG := hide (And.intro G (And.intro hu (And.intro hset (And.intro hsub (And.intro hZm (And.intro hrow hfitr))))))
  have HZL := hide (And.intro hzl hh)
  have HTK := hide (tk_or (mode := 2) hin hcom)
  obtain ⟨tk, htk⟩ : ∃ z, M.tkE s st.table 2 = z := ⟨_, rfl⟩
  rw [htk] at HTK
  have Htk := hide htk
  clear o0 o1 o2 N0 N1 N2 oA hC hS hcs x7 p7 R hCa own0 nbh hR hap hlo G hu hset hsub hZm hrow hfitr hzl hh hin hcom htk ok hhit
  go_enter Tryz.func174, Tryz.ntmps174
  go_upto_region 2 with fail
  generalize ((w.alloc (.cells #[.string tn, .slice ca cn cc, .int .i64 (u.pk : Int), .int .i64 ix] 79)).alloc (.cells #[.int .i64 st.kind, .string st.table, .slice a2 st.defs.length c2, .int .i64 st.pk, .slice a4 st.lits.length c4, .bool st.star, .slice a6 st.list.length c6, .slice a7 st.sets.length c7, .slice a8 st.wh.length c8, .string st.order, .bool st.desc, .bool st.hasL, .int .i64 st.lim] 173)).alloc (.cells #[.int .i64 0, .int .i64 0, .slice none 0 0, .slice none 0 0] 52) = w1 at *
  generalize hH : w.heap.size = H at *
  go_loopg [11, 12, 13] (hn + 1) (fun gk iv _ _ wr => ∃ (i : Nat) (Ki : Nat → Prop), gk + i = hn + 1 ∧ iv = .int .i64 i ∧ i ≤ hn ∧ (0 < i → tk = 0) ∧ CgI q w k g x lo K H #[.string tn, .slice ca cn cc, .int .i64 (u.pk : Int), .int .i64 ix] #[.int .i64 st.kind, .string st.table, .slice a2 st.defs.length c2, .int .i64 st.pk, .slice a4 st.lits.length c4, .bool st.star, .slice a6 st.list.length c6, .slice a7 st.sets.length c7, .slice a8 st.wh.length c8, .string st.order, .bool st.desc, .bool st.hasL, .int .i64 st.lim] (.slice ca cn cc) u.cols (.slice a7 st.sets.length c7) st.sets (.slice ha hn hc) Z wr ∧ QR q wr k g x (MiQ M s st u hit i) Ki last ∧ (∀ b, Ki b → K b ∨ H + 3 ≤ b) ∧ (∀ z ∈ Z.drop i, OwnV wr z.1 z.2))
  case atStart => exact ⟨0, K, rfl, rfl, Nat.zero_le _, fun h => by omega, (unhide HA).1, (unhide HA).2.1, fun b hb => .inl hb, fun z hz => ((unhide HA).2.2 z (by simpa using hz)).1⟩
  case round =>
    obtain ⟨i, Ki, hgk, rfl, hi, hi0, hI, hQ, hK, hZr⟩ := hrel
    clear HA
    by_cases hs : i < hn
    · have a1 : decide ((i : Int) < (hn : Int)) = true := decide_eq_true (by omega)
      have a1p : (i : Int) < (hn : Int) := by omega
      obtain ⟨z, hz⟩ := getE (l := Z) (i := i) (by rw [← (unhide HZL).2]; exact hs)
      have hzm := List.mem_of_getElem? hz
      have hzd : z ∈ Z.drop i := by
        obtain ⟨hl, e⟩ := List.getElem?_eq_some_iff.mp hz
        rw [List.drop_eq_getElem_cons hl, e]
        simp
      have hr : hit[i]? = some z.2 := by rw [← (unhide HG).2.2.2.2.1, List.getElem?_map, hz]; rfl
      have O1 := hZr z hzd
      obtain ⟨za, zc, hzs⟩ := O1.shape
      have hzl := (unhide HG).2.2.2.2.2.1 z hzm
      obtain ⟨zn, hzn⟩ : ∃ n, z.2.length = n := ⟨_, rfl⟩
      rw [hzn] at hzs
      have own2 := hI.oh
      obtain ⟨hg, hha⟩ : ∃ rg, ha = some ⟨rg, 0, none⟩ := by
        rcases own2.2 with ⟨he, h0⟩ | ⟨g', cap', cur, he, _⟩
        · have := (List.getElem?_eq_some_iff.mp hz).1; omega
        · have := he
          simp at this
          exact ⟨g', this.1⟩
      subst hha
      have hcx : wr.cell? ⟨hg, i, none⟩ = some (.slice za zn zc) := by
        have hc0 := World.ownsRow.cells own2 (g := hg) (rfl) i z.1 (by rw [List.getElem?_map, hz]; rfl)
        rw [addr_add, hzs] at hc0
        simpa using hc0
      have t0 : wr.cell? ⟨H + 1, 0, none⟩ = some (.int .i64 st.kind) := hI.sv.cell 0
      have tl := hI.sv.lt
      have lts := (unhide HLT)
      have aps := (unhide HAP)
      have h3 : H + 3 ≤ wr.heap.size := hI.rb.lt
      have apK : ∀ b, Apa q x k K b → b < H + 3 → ¬ (q.S b ∨ Ki b) := fun b ha hb c => c.elim ha.S (fun c => (hK b c).elim ha.2.2.1 (fun c => by omega))
      have HKI := hide apK
      have HSTEP := hide (show ∀ wa : World, CgI q w k g x lo K H #[.string tn, .slice ca cn cc, .int .i64 (u.pk : Int), .int .i64 ix] #[.int .i64 st.kind, .string st.table, .slice a2 st.defs.length c2, .int .i64 st.pk, .slice a4 st.lits.length c4, .bool st.star, .slice a6 st.list.length c6, .slice a7 st.sets.length c7, .slice a8 st.wh.length c8, .string st.order, .bool st.desc, .bool st.hasL, .int .i64 st.lim] (.slice ca cn cc) u.cols (.slice a7 st.sets.length c7) st.sets (.slice (some ⟨hg, 0, none⟩) hn hc) Z wa → QR q wa k g x (MiQ M s st u hit i) Ki last → (∀ z ∈ Z.drop (i + 1), OwnV wa z.1 z.2) → ∀ w' : World, Rp q wa g x (MiQ M s st u hit (i + 1)) Ki w' → ∃ K', CgI q w k g x lo K H #[.string tn, .slice ca cn cc, .int .i64 (u.pk : Int), .int .i64 ix] #[.int .i64 st.kind, .string st.table, .slice a2 st.defs.length c2, .int .i64 st.pk, .slice a4 st.lits.length c4, .bool st.star, .slice a6 st.list.length c6, .slice a7 st.sets.length c7, .slice a8 st.wh.length c8, .string st.order, .bool st.desc, .bool st.hasL, .int .i64 st.lim] (.slice ca cn cc) u.cols (.slice a7 st.sets.length c7) st.sets (.slice (some ⟨hg, 0, none⟩) hn hc) Z w' ∧ QR q w' k g x (MiQ M s st u hit (i + 1)) K' last ∧ (∀ b, K' b → K b ∨ H + 3 ≤ b) ∧ (∀ z ∈ Z.drop (i + 1), OwnV w' z.1 z.2) from fun wa cI qa zr w' ⟨K', r, hk', o⟩ => by
        have hwa : H + 3 ≤ wa.heap.size := cI.rb.lt
        refine ⟨K', cI.keep o (fun b hb => ?_) (cI.on.trans o (fun b hl h => h.imp id (fun h => .inl ((hK b h).elim id (fun h => by omega))))), qa.turn r o qa.kSK hk', fun b hb => (hk' b hb).elim (hK b) (fun h => .inr (by omega)), fun z' hz' => (zr z' hz').keep o (fun b hb => ?_)⟩
        · rcases hb with h | h | h | h | h | h
          · exact apK b (aps.1 b (by omega)) (by omega)
          · exact apK b (aps.1 b (by omega)) (by omega)
          · exact apK b (aps.1 b (by omega)) (by omega)
          · exact apK b (lts.1 b h).1 (by have := (lts.1 b h).2; omega)
          · exact apK b (lts.2.1 b h).1 (by have := (lts.2.1 b h).2; omega)
          · have := lts.2.2.1 b h; exact apK b (aps.1 b this.1) (by omega)
        · have := lts.2.2.2 z' (List.mem_of_mem_drop hz') b hb
          exact apK b (aps.1 b this.1) (by omega))
      go_upto_if 22 with fail
      go_cut [12, 13] from 20 to 76 (fun ev _ wx => ev = .int .i64 tk ∧ ∃ K', CgI q w k g x lo K H #[.string tn, .slice ca cn cc, .int .i64 (u.pk : Int), .int .i64 ix] #[.int .i64 st.kind, .string st.table, .slice a2 st.defs.length c2, .int .i64 st.pk, .slice a4 st.lits.length c4, .bool st.star, .slice a6 st.list.length c6, .slice a7 st.sets.length c7, .slice a8 st.wh.length c8, .string st.order, .bool st.desc, .bool st.hasL, .int .i64 st.lim] (.slice ca cn cc) u.cols (.slice a7 st.sets.length c7) st.sets (.slice (some ⟨hg, 0, none⟩) hn hc) Z wx ∧ QR q wx k g x (MiQ M s st u hit (i + 1)) K' last ∧ (∀ b, K' b → K b ∨ H + 3 ≤ b) ∧ (∀ z ∈ Z.drop (i + 1), OwnV wx z.1 z.2))
      case first =>
        have e0 : wr.cell? ⟨k, 0, none⟩ = some (.pointer (some ⟨g, 0, none⟩)) := hQ.has.cell 0
        have kl := hQ.has.lt
        have t1 : wr.cell? ⟨H + 1, 1, none⟩ = some (.string st.table) := hI.sv.cell 1
        have s0 : wr.cell? ⟨H, 0, none⟩ = some (.string tn) := hI.sc.cell 0
        have s1 : wr.cell? ⟨H, 1, none⟩ = some (.slice ca cn cc) := hI.sc.cell 1
        have s2 : wr.cell? ⟨H, 2, none⟩ = some (.int .i64 (u.pk : Int)) := hI.sc.cell 2
        have s3 : wr.cell? ⟨H, 3, none⟩ = some (.int .i64 ix) := hI.sc.cell 3
        have sl := hI.sc.lt
        have pkn : u.pk < u.cols.length := ((unhide HG).1.tb u (findD_mem (unhide HG).2.1).1).pkn
        obtain ⟨y, hy⟩ := getE (l := z.2) (i := u.pk) (by omega)
        have hyk : kyR u.pk z.2 = y := by unfold kyR; rw [hy]; rfl
        rw [hzs] at O1
        obtain ⟨zg, hza, v0, v1, v2⟩ := O1.at_ hy
        subst hza
        have hzb := lts.2.2.2 z hzm zg (by rw [hzs]; rfl)
        have hhb := lts.2.2.1 hg (rfl)
        have nk := hide hQ.kSK
        have nT := hide (apK (H + 1) (aps.1 _ (by omega)) (by omega))
        have nH := hide (apK H (aps.1 _ (by omega)) (by omega))
        have nz := hide (apK zg (aps.1 _ hzb.1) (by omega))
        have nh := hide (apK hg (aps.1 _ hhb.1) (by omega))
        have oD4 : Only (fun _ => False) wr wr.drew := (Only.refl _ wr).drew
        have Qd := hQ.quiet oD4
        have hwf := (unhide HG).2.2.2.2.2.2 z hzm
        have zlt : (u.pk : Int) < (zn : Int) := by omega
        have hndr : ∀ z' ∈ Z.drop (i + 1), z' ∈ Z.drop i := fun z' hz' => by
          obtain ⟨hl, e⟩ := List.getElem?_eq_some_iff.mp hz
          have hd : Z.drop i = Z[i] :: Z.drop (i + 1) := List.drop_eq_getElem_cons hl
          rw [hd]
          exact List.mem_cons_of_mem _ hz'
        by_cases hk10 : st.kind = 10
        · have b1 : (st.kind == 10) = true := by simp [hk10]
          have CD := rdelete_any Qd.rx s st.table y (hwf y (List.mem_of_getElem? hy))
          unfold vlA at CD
          have CD : Calls Tryz.prog 251 #[.pointer (some ⟨g, 0, none⟩), .int .i64 s, .string st.table, .agg #[.bool y.str, .int .i64 y.i, .string y.s]] wr.drew fun e w' => ∃ v, e = .returned v ∧ v = .int .i64 tk ∧ Rp q wr.drew g x (MiQ M s st u hit (i + 1)) Ki w' ∧ Only (fun b => q.S b ∨ Ki b) wr.drew w' := CD.mono (by
            intro e w' h
            obtain ⟨rfl, h2⟩ := qchg_step (unhide HG).1 (unhide HG).2.1 (unhide HG).2.2.1 (unhide HG).2.2.2.1 hr (fun D => by unfold chg1; rw [if_pos hk10, hyk]) h
            obtain ⟨K', r, hk', o⟩ := h2
            exact ⟨_, rfl, by rw [unhide Htk], ⟨K', r, hk', o⟩, o⟩)
          have CD := hide CD
          have HI := hide (And.intro (hI.quiet oD4) (And.intro Qd (show ∀ z' ∈ Z.drop (i + 1), OwnV wr.drew z'.1 z'.2 from fun z' hz' => (hZr z' (hndr z' hz')).keep oD4 (fun _ _ e => e))))
          clear hk10 hI hQ hZr hK O1 hy hyk Qd oD4 lts aps apK hzb hhb hwf hndr own2 hr hzl hzn hzs hzd hzm hz
          go_upto_region 6 with fail
          refine wp_region_held_drew (S := (fun w' => w'.cell? ⟨k, 0, none⟩ = some (.pointer (some ⟨g, 0, none⟩)) ∧ w'.cell? ⟨H + 1, 1, none⟩ = some (.string st.table) ∧ w'.cell? ⟨hg, i, none⟩ = some (.slice (some ⟨zg, 0, none⟩) zn zc) ∧ w'.cell? ⟨H, 2, none⟩ = some (.int .i64 (u.pk : Int)) ∧ w'.cell? ⟨zg, u.pk * 3, none⟩ = some (.bool y.str) ∧ w'.cell? ⟨zg, u.pk * 3 + 1, none⟩ = some (.int .i64 y.i) ∧ w'.cell? ⟨zg, u.pk * 3 + 2, none⟩ = some (.string y.s))) (by kernel_rfl) ⟨e0, t1, hcx, s2, v0, v1, v2⟩ (fun hH0 => ?_)
          refine takeH 0 23 (v := ?vdl1) rfl rfl (by kernel_rfl) (by kernel_rfl) (by kernel_rfl) (fun _ _ _ h => h) (Or.inl ⟨by rfl, ?hdl1⟩) hH0 ?rdl1
          case hdl1 => (intro w hSw; clear hSw; go_simp; (try with_reducible rfl))
          case rdl1 =>
          try simp only [Act.put, List.setIfInBounds_toArray, List.set_cons_zero, List.set_cons_succ]
          refine takeH 1 24 (v := ?vdl2) rfl rfl (by kernel_rfl) (by kernel_rfl) (by kernel_rfl) (fun _ _ _ h => h) (Or.inl ⟨by rfl, ?hdl2⟩) hH0 ?rdl2
          case hdl2 => (intro w hSw; clear hSw; go_simp; (try with_reducible rfl))
          case rdl2 =>
          try simp only [Act.put, List.setIfInBounds_toArray, List.set_cons_zero, List.set_cons_succ]
          refine takeH 2 25 (v := ?vdl3) rfl rfl (by kernel_rfl) (by kernel_rfl) (by kernel_rfl) (fun _ _ _ h => h) (Or.inl ⟨by rfl, ?hdl3⟩) hH0 ?rdl3
          case hdl3 => (intro w hSw; clear hSw; go_simp; (try with_reducible rfl))
          case rdl3 =>
          try simp only [Act.put, List.setIfInBounds_toArray, List.set_cons_zero, List.set_cons_succ]
          refine takeH 3 26 (v := ?vdl4) rfl rfl (by kernel_rfl) (by kernel_rfl) (by kernel_rfl) (fun _ _ _ h => h) (Or.inl ⟨by rfl, ?hdl4⟩) hH0 ?rdl4
          case hdl4 => (intro w hSw; obtain ⟨s0, s1, s2, s3, s4, s5, s6⟩ := hSw; go_simp; (try with_reducible rfl))
          case rdl4 =>
          try simp only [Act.put, List.setIfInBounds_toArray, List.set_cons_zero, List.set_cons_succ]
          refine takeH 4 27 (v := ?vdl5) rfl rfl (by kernel_rfl) (by kernel_rfl) (by kernel_rfl) (fun _ _ _ h => h) (Or.inl ⟨by rfl, ?hdl5⟩) hH0 ?rdl5
          case hdl5 => (intro w hSw; clear hSw; go_simp; (try with_reducible rfl))
          case rdl5 =>
          try simp only [Act.put, List.setIfInBounds_toArray, List.set_cons_zero, List.set_cons_succ]
          refine takeH 5 28 (v := ?vdl6) rfl rfl (by kernel_rfl) (by kernel_rfl) (by kernel_rfl) (fun _ _ _ h => h) (Or.inl ⟨by rfl, ?hdl6⟩) hH0 ?rdl6
          case hdl6 => (intro w hSw; clear hSw; go_simp; (try with_reducible rfl))
          case rdl6 =>
          try simp only [Act.put, List.setIfInBounds_toArray, List.set_cons_zero, List.set_cons_succ]
          refine takeH 6 29 (v := ?vdl7) rfl rfl (by kernel_rfl) (by kernel_rfl) (by kernel_rfl) (fun _ _ _ h => h) (Or.inl ⟨by rfl, ?hdl7⟩) hH0 ?rdl7
          case hdl7 => (intro w hSw; obtain ⟨s0, s1, s2, s3, s4, s5, s6⟩ := hSw; go_simp; (try with_reducible rfl))
          case rdl7 =>
          try simp only [Act.put, List.setIfInBounds_toArray, List.set_cons_zero, List.set_cons_succ]
          refine takeH 7 30 (v := ?vdl8) rfl rfl (by kernel_rfl) (by kernel_rfl) (by kernel_rfl) (fun _ _ _ h => h) (Or.inl ⟨by rfl, ?hdl8⟩) hH0 ?rdl8
          case hdl8 => (intro w hSw; clear hSw; go_simp; (try with_reducible rfl))
          case rdl8 =>
          try simp only [Act.put, List.setIfInBounds_toArray, List.set_cons_zero, List.set_cons_succ]
          refine takeH 8 31 (v := ?vdl9) rfl rfl (by kernel_rfl) (by kernel_rfl) (by kernel_rfl) (fun _ _ _ h => h) (Or.inl ⟨by rfl, ?hdl9⟩) hH0 ?rdl9
          case hdl9 => (intro w hSw; clear hSw; go_simp; (try with_reducible rfl))
          case rdl9 =>
          try simp only [Act.put, List.setIfInBounds_toArray, List.set_cons_zero, List.set_cons_succ]
          refine takeH 9 32 (v := ?vdl10) rfl rfl (by kernel_rfl) (by kernel_rfl) (by kernel_rfl) (fun _ _ _ h => h) (Or.inl ⟨by rfl, ?hdl10⟩) hH0 ?rdl10
          case hdl10 => (intro w hSw; clear hSw; go_simp; (try with_reducible rfl))
          case rdl10 =>
          try simp only [Act.put, List.setIfInBounds_toArray, List.set_cons_zero, List.set_cons_succ]
          refine takeH 10 33 (v := ?vdl11) rfl rfl (by kernel_rfl) (by kernel_rfl) (by kernel_rfl) (fun _ _ _ h => h) (Or.inl ⟨by rfl, ?hdl11⟩) hH0 ?rdl11
          case hdl11 => (intro w hSw; obtain ⟨s0, s1, s2, s3, s4, s5, s6⟩ := hSw; go_simp; (try with_reducible rfl))
          case rdl11 =>
          try simp only [Act.put, List.setIfInBounds_toArray, List.set_cons_zero, List.set_cons_succ]
          refine takeH 11 34 (v := ?vdl12) rfl rfl (by kernel_rfl) (by kernel_rfl) (by kernel_rfl) (fun _ _ _ h => h) (Or.inl ⟨by rfl, ?hdl12⟩) hH0 ?rdl12
          case hdl12 => (intro w hSw; clear hSw; go_simp; (try with_reducible rfl))
          case rdl12 =>
          try simp only [Act.put, List.setIfInBounds_toArray, List.set_cons_zero, List.set_cons_succ]
          refine takeH 12 35 (v := ?vdl13) rfl rfl (by kernel_rfl) (by kernel_rfl) (by kernel_rfl) (fun _ _ _ h => h) (Or.inl ⟨by rfl, ?hdl13⟩) hH0 ?rdl13
          case hdl13 => (intro w hSw; obtain ⟨s0, s1, s2, s3, s4, s5, s6⟩ := hSw; go_simp; (try with_reducible rfl))
          case rdl13 =>
          try simp only [Act.put, List.setIfInBounds_toArray, List.set_cons_zero, List.set_cons_succ]
          refine takeH 13 36 (v := ?vdl14) rfl rfl (by kernel_rfl) (by kernel_rfl) (by kernel_rfl) (fun _ _ _ h => h) (Or.inl ⟨by rfl, ?hdl14⟩) hH0 ?rdl14
          case hdl14 => (intro w hSw; clear hSw; go_simp; (try with_reducible rfl))
          case rdl14 =>
          try simp only [Act.put, List.setIfInBounds_toArray, List.set_cons_zero, List.set_cons_succ]
          refine takeH 14 37 (v := ?vdl15) rfl rfl (by kernel_rfl) (by kernel_rfl) (by kernel_rfl) (fun _ _ _ h => h) (Or.inl ⟨by rfl, ?hdl15⟩) hH0 ?rdl15
          case hdl15 => (intro w hSw; obtain ⟨s0, s1, s2, s3, s4, s5, s6⟩ := hSw; go_simp; (try with_reducible rfl))
          case rdl15 =>
          try simp only [Act.put, List.setIfInBounds_toArray, List.set_cons_zero, List.set_cons_succ]
          refine callH 15 (by kernel_rfl) rfl 38 rfl rfl 251 Tryz.func251 (by kernel_rfl) (by kernel_rfl) #[.tmp 26, .tmp 27, .tmp 29, .tmp 37] #[28, 3, 9, 152] rfl #[.pointer (some ⟨g, 0, none⟩), .int .i64 s, .string st.table, .agg #[.bool y.str, .int .i64 y.i, .string y.s]] (by simp [Act.eval]) (R := fun v w' => v = .int .i64 tk ∧ Rp q wr.drew g x (MiQ M s st u hit (i + 1)) Ki w' ∧ Only (fun b => q.S b ∨ Ki b) wr.drew w') (unhide CD) ?kdl
          case kdl =>
          rintro _ w6 ⟨rfl, hrp, o6⟩
          have S6 : w6.cell? ⟨k, 0, none⟩ = some (.pointer (some ⟨g, 0, none⟩)) ∧ w6.cell? ⟨H + 1, 1, none⟩ = some (.string st.table) ∧ w6.cell? ⟨hg, i, none⟩ = some (.slice (some ⟨zg, 0, none⟩) zn zc) ∧ w6.cell? ⟨H, 2, none⟩ = some (.int .i64 (u.pk : Int)) ∧ w6.cell? ⟨zg, u.pk * 3, none⟩ = some (.bool y.str) ∧ w6.cell? ⟨zg, u.pk * 3 + 1, none⟩ = some (.int .i64 y.i) ∧ w6.cell? ⟨zg, u.pk * 3 + 2, none⟩ = some (.string y.s) := ⟨cell_keep (hH0.1) o6 (unhide nk), cell_keep (hH0.2.1) o6 (unhide nT), cell_keep (hH0.2.2.1) o6 (unhide nh), cell_keep (hH0.2.2.2.1) o6 (unhide nH), cell_keep (hH0.2.2.2.2.1) o6 (unhide nz), cell_keep (hH0.2.2.2.2.2.1) o6 (unhide nz), cell_keep (hH0.2.2.2.2.2.2) o6 (unhide nz)⟩
          refine ⟨S6, ?_⟩
          try simp only [Act.put, List.setIfInBounds_toArray, List.set_cons_zero, List.set_cons_succ]
          refine takeH 16 12 (v := ?vdl16) rfl rfl (by kernel_rfl) (by kernel_rfl) (by kernel_rfl) (fun _ _ _ h => h) (Or.inl ⟨by rfl, ?hdl16⟩) S6 ?rdl16
          case hdl16 => (intro w hSw; clear hSw; go_simp; (try with_reducible rfl))
          case rdl16 =>
          try simp only [Act.put, List.setIfInBounds_toArray, List.set_cons_zero, List.set_cons_succ]
          refine wpAnyH_done (by kernel_rfl) ?_ _
          have oD : Only (fun b => q.S b ∨ Ki b) wr w6 := (Only.refl (fun b => q.S b ∨ Ki b) wr).drew.trans o6 (fun _ _ e => e)
          clear hH0 S6
          have HE := hide (unhide HSTEP wr.drew (unhide HI).1 (unhide HI).2.1 (unhide HI).2.2 w6 hrp)
          clear hrp o6 oD CD HI e0 t1 hcx s0 s1 s2 s3 v0 v1 v2 HSTEP t0 tl kl sl
          go_wp2_with fail
          go_meet
          exact ⟨rfl, unhide HE⟩
        · have b1 : (st.kind == 10) = false := by simp [hk10]
          have t7 : wr.cell? ⟨H + 1, 7, none⟩ = some (.slice a7 st.sets.length c7) := hI.sv.cell 7
          go_upto_region 8 with fail
          obtain ⟨wo, rfl⟩ : ∃ wo : World, wo = wr := ⟨_, rfl⟩
          have HI := hide (And.intro hI (And.intro hQ (And.intro hZr (And.intro O1 (And.intro hr (And.intro hzl hwf))))))
          have HZZ := hide (And.intro hzs (And.intro hzb (And.intro hhb (And.intro trivial (And.intro hzm (And.intro hndr (And.intro hk10 hzn)))))))
          clear t7 t0 tl t1 s0 s1 s2 s3 sl e0 kl v0 v1 v2 hcx
          go_loopw [13] (fun jv wq => ∃ j : Nat, jv = .int .i64 j ∧ j ≤ st.sets.length ∧ OwnV wq (.slice (some ⟨zg, 0, none⟩) zn zc) (setR u.cols (st.sets.take j) z.2) ∧ Only (fun b => b = zg) wo wq) (fun jv _ => st.sets.length + 1 - (intOf jv).toNat)
          case atStart => exact ⟨0, rfl, Nat.zero_le _, (unhide HI).2.2.2.1, Only.refl _ _⟩
          case round =>
            obtain ⟨j, rfl, hj, hV, oQ⟩ := hrel
            have hPk : ∀ b, b = H ∨ b = H + 1 ∨ b = H + 2 ∨ (Value.slice ca cn cc).ownBlock = some b ∨ (Value.slice a7 st.sets.length c7).ownBlock = some b ∨ (Value.slice (some ⟨hg, 0, none⟩) hn hc).ownBlock = some b → ¬ b = zg := fun b hb e => by
              subst e
              have hz2 := (unhide HZZ).2.1
              have ow := (unhide HI).1
              rcases hb with h | h | h | h | h | h
              · omega
              · omega
              · omega
              · obtain ⟨c0, hc0⟩ := ownsRow_has ow.oc h; exact ownsRow_ne (unhide HI).2.2.2.1 hc0 (by decide) b rfl rfl
              · obtain ⟨c0, hc0⟩ := ownsRow_has ow.o7 h; exact ownsRow_ne (unhide HI).2.2.2.1 hc0 (by decide) b rfl rfl
              · obtain ⟨c0, hc0⟩ := ownsRow_has ow.oh h; exact ownsRow_ne (unhide HI).2.2.2.1 hc0 (by decide) b rfl rfl
            have hIq : CgI q w k g x lo K H #[.string tn, .slice ca cn cc, .int .i64 (u.pk : Int), .int .i64 ix] #[.int .i64 st.kind, .string st.table, .slice a2 st.defs.length c2, .int .i64 st.pk, .slice a4 st.lits.length c4, .bool st.star, .slice a6 st.list.length c6, .slice a7 st.sets.length c7, .slice a8 st.wh.length c8, .string st.order, .bool st.desc, .bool st.hasL, .int .i64 st.lim] (.slice ca cn cc) u.cols (.slice a7 st.sets.length c7) st.sets (.slice (some ⟨hg, 0, none⟩) hn hc) Z wr := (unhide HI).1.keep oQ hPk ((unhide HI).1.on.trans (oQ.mono (T := fun b => q.S b ∨ K b ∨ Zb Z b) (fun b _ (h : b = zg) => .inr (.inr ⟨z, hzm, by rw [h, (unhide HZZ).1]; rfl⟩))) (fun _ _ e => e))
            have hQq : QR q wr k g x (MiQ M s st u hit i) Ki last := (unhide HI).2.1.keep oQ (fun b hb (e : b = zg) => by
              subst e
              have ha1 := aps.1 b (unhide HZZ).2.1.1
              have hnz := unhide nz
              rcases hb with h | h | h | h
              · exact ha1.1 h
              · exact ha1.2.1 h
              · exact hnz (.inr h)
              · exact ha1.2.2.2 h)
            have hcx : wr.cell? ⟨hg, i, none⟩ = some (.slice (some ⟨zg, 0, none⟩) zn zc) := by
              have hc0 := World.ownsRow.cells hIq.oh (g := hg) (rfl) i z.1 (by rw [List.getElem?_map, hz]; rfl)
              rw [addr_add, (unhide HZZ).1] at hc0
              simpa using hc0
            have t7 : wr.cell? ⟨H + 1, 7, none⟩ = some (.slice a7 st.sets.length c7) := hIq.sv.cell 7
            have tl := hIq.sv.lt
            by_cases hjs : j < st.sets.length
            · have c1 : decide ((j : Int) < (st.sets.length : Int)) = true := decide_eq_true (by omega)
              have c1p : (j : Int) < (st.sets.length : Int) := by omega
              obtain ⟨c, hx⟩ := getE hjs
              obtain ⟨gw, hgw, d0, d1, d2, d3, d4⟩ := hIq.o7.at_ hx
              obtain ⟨q1, q2, q3, q4⟩ := (unhide HG).2.2.1 c (List.mem_of_getElem? hx)
              have hqr := qcol_rng u.cols c.col
              obtain ⟨m, hm⟩ : ∃ m : Nat, qcol u.cols c.col = (m : Int) := ⟨(qcol u.cols c.col).toNat, by omega⟩
              have hsl2 : (setR u.cols (st.sets.take j) z.2).length = zn := by rw [setR_len]; exact (unhide HZZ).2.2.2.2.2.2.2
              have hzl2 := (unhide HI).2.2.2.2.2.1
              have hzn2 := (unhide HZZ).2.2.2.2.2.2.2
              have hmz : m < (setR u.cols (st.sets.take j) z.2).length := by omega
              have s0 : wr.cell? ⟨H, 0, none⟩ = some (.string tn) := hIq.sc.cell 0
              have s1 : wr.cell? ⟨H, 1, none⟩ = some (.slice ca cn cc) := hIq.sc.cell 1
              have s2 : wr.cell? ⟨H, 2, none⟩ = some (.int .i64 (u.pk : Int)) := hIq.sc.cell 2
              have s3 : wr.cell? ⟨H, 3, none⟩ = some (.int .i64 ix) := hIq.sc.cell 3
              have oD : Only (fun _ => False) wr wr.drew := (Only.refl _ wr).drew
              have C1 := sqcolOf_any (tn := tn) (pk := (u.pk : Int)) (ix := ix) (hIq.oc.keep oD (fun _ _ e => e)) hcl c.col
              unfold schU at C1
              rw [hm] at C1
              have C1 := hide C1
              have hmzp : (m : Int) < (zn : Int) := by omega
              have HNX := hide (show setR u.cols (st.sets.take (j + 1)) z.2 = (setR u.cols (st.sets.take j) z.2).set m c.lit by unfold setR; rw [List.take_add_one, hx, Option.toList_some, List.foldl_append]; show List.set _ (qcol u.cols c.col).toNat c.lit = _; rw [hm]; rfl)
              have bne : ∀ b, b = H ∨ b = H + 1 ∨ b = H + 2 ∨ (Value.slice ca cn cc).ownBlock = some b ∨ (Value.slice a7 st.sets.length c7).ownBlock = some b ∨ (Value.slice (some ⟨hg, 0, none⟩) hn hc).ownBlock = some b → ¬ b = zg := hPk
              rw [hgw] at t7
              have HSB := hide (show ∀ W, Only (fun b => b = zg) wr W → (W.cell? ⟨hg, i, none⟩ = some (.slice (some ⟨zg, 0, none⟩) zn zc) ∧ W.cell? ⟨H, 0, none⟩ = some (.string tn) ∧ W.cell? ⟨H, 1, none⟩ = some (.slice ca cn cc) ∧ W.cell? ⟨H, 2, none⟩ = some (.int .i64 (u.pk : Int)) ∧ W.cell? ⟨H, 3, none⟩ = some (.int .i64 ix) ∧ W.cell? ⟨H + 1, 7, none⟩ = some (.slice (some ⟨gw, 0, none⟩) st.sets.length c7) ∧ W.cell? ⟨gw, j * 5, none⟩ = some (.string c.col) ∧ W.cell? ⟨gw, j * 5 + 2, none⟩ = some (.bool c.lit.str) ∧ W.cell? ⟨gw, j * 5 + 3, none⟩ = some (.int .i64 c.lit.i) ∧ W.cell? ⟨gw, j * 5 + 4, none⟩ = some (.string c.lit.s)) from fun W o => ⟨cell_keep hcx o (bne _ (.inr (.inr (.inr (.inr (.inr (rfl))))))), cell_keep s0 o (bne _ (.inl rfl)), cell_keep s1 o (bne _ (.inl rfl)), cell_keep s2 o (bne _ (.inl rfl)), cell_keep s3 o (bne _ (.inl rfl)), cell_keep t7 o (bne _ (.inr (.inl rfl))), cell_keep d0 o (bne _ (.inr (.inr (.inr (.inr (.inl (by rw [hgw]; rfl))))))), cell_keep d2 o (bne _ (.inr (.inr (.inr (.inr (.inl (by rw [hgw]; rfl))))))), cell_keep d3 o (bne _ (.inr (.inr (.inr (.inr (.inl (by rw [hgw]; rfl))))))), cell_keep d4 o (bne _ (.inr (.inr (.inr (.inr (.inl (by rw [hgw]; rfl)))))))⟩)
              have hsb0 := unhide HSB wr (Only.refl _ _)
              have HV := hide (And.intro hV (And.intro hmz oQ))
              clear hIq hQq hPk bne hV oQ hx hm hqr q1 q2 q3 q4 hsl2 hzl2 hzn2 hmz oD hgw d1
              go_upto_region 10 with fail
              refine wp_region_held_drew (S := (fun w' => w'.cell? ⟨hg, i, none⟩ = some (.slice (some ⟨zg, 0, none⟩) zn zc) ∧ w'.cell? ⟨H, 0, none⟩ = some (.string tn) ∧ w'.cell? ⟨H, 1, none⟩ = some (.slice ca cn cc) ∧ w'.cell? ⟨H, 2, none⟩ = some (.int .i64 (u.pk : Int)) ∧ w'.cell? ⟨H, 3, none⟩ = some (.int .i64 ix) ∧ w'.cell? ⟨H + 1, 7, none⟩ = some (.slice (some ⟨gw, 0, none⟩) st.sets.length c7) ∧ w'.cell? ⟨gw, j * 5, none⟩ = some (.string c.col) ∧ w'.cell? ⟨gw, j * 5 + 2, none⟩ = some (.bool c.lit.str) ∧ w'.cell? ⟨gw, j * 5 + 3, none⟩ = some (.int .i64 c.lit.i) ∧ w'.cell? ⟨gw, j * 5 + 4, none⟩ = some (.string c.lit.s))) (by kernel_rfl) hsb0 (fun hH0 => ?_)
              refine takeH 0 46 (v := ?vcb1) rfl rfl (by kernel_rfl) (by kernel_rfl) (by kernel_rfl) (fun _ _ _ h => h) (Or.inl ⟨by rfl, ?hcb1⟩) hH0 ?rcb1
              case hcb1 => (intro w hSw; clear hSw; go_simp; (try with_reducible rfl))
              case rcb1 =>
              try simp only [Act.put, List.setIfInBounds_toArray, List.set_cons_zero, List.set_cons_succ]
              refine takeH 1 47 (v := ?vcb2) rfl rfl (by kernel_rfl) (by kernel_rfl) (by kernel_rfl) (fun _ _ _ h => h) (Or.inl ⟨by rfl, ?hcb2⟩) hH0 ?rcb2
              case hcb2 => (intro w hSw; clear hSw; go_simp; (try with_reducible rfl))
              case rcb2 =>
              try simp only [Act.put, List.setIfInBounds_toArray, List.set_cons_zero, List.set_cons_succ]
              refine takeH 2 48 (v := ?vcb3) rfl rfl (by kernel_rfl) (by kernel_rfl) (by kernel_rfl) (fun _ _ _ h => h) (Or.inl ⟨by rfl, ?hcb3⟩) hH0 ?rcb3
              case hcb3 => (intro w hSw; clear hSw; go_simp; (try with_reducible rfl))
              case rcb3 =>
              try simp only [Act.put, List.setIfInBounds_toArray, List.set_cons_zero, List.set_cons_succ]
              refine takeH 3 49 (v := ?vcb4) rfl rfl (by kernel_rfl) (by kernel_rfl) (by kernel_rfl) (fun _ _ _ h => h) (Or.inl ⟨by rfl, ?hcb4⟩) hH0 ?rcb4
              case hcb4 => (intro w hSw; obtain ⟨s0, s1, s2, s3, s4, s5, s6, s7, s8, s9⟩ := hSw; go_simp; (try with_reducible rfl))
              case rcb4 =>
              try simp only [Act.put, List.setIfInBounds_toArray, List.set_cons_zero, List.set_cons_succ]
              refine takeH 4 50 (v := ?vcb5) rfl rfl (by kernel_rfl) (by kernel_rfl) (by kernel_rfl) (fun _ _ _ h => h) (Or.inl ⟨by rfl, ?hcb5⟩) hH0 ?rcb5
              case hcb5 => (intro w hSw; obtain ⟨s0, s1, s2, s3, s4, s5, s6, s7, s8, s9⟩ := hSw; go_simp; (try with_reducible rfl))
              case rcb5 =>
              try simp only [Act.put, List.setIfInBounds_toArray, List.set_cons_zero, List.set_cons_succ]
              refine takeH 5 51 (v := ?vcb6) rfl rfl (by kernel_rfl) (by kernel_rfl) (by kernel_rfl) (fun _ _ _ h => h) (Or.inl ⟨by rfl, ?hcb6⟩) hH0 ?rcb6
              case hcb6 => (intro w hSw; clear hSw; go_simp; (try with_reducible rfl))
              case rcb6 =>
              try simp only [Act.put, List.setIfInBounds_toArray, List.set_cons_zero, List.set_cons_succ]
              refine takeH 6 52 (v := ?vcb7) rfl rfl (by kernel_rfl) (by kernel_rfl) (by kernel_rfl) (fun _ _ _ h => h) (Or.inl ⟨by rfl, ?hcb7⟩) hH0 ?rcb7
              case hcb7 => (intro w hSw; obtain ⟨s0, s1, s2, s3, s4, s5, s6, s7, s8, s9⟩ := hSw; go_simp; (try with_reducible rfl))
              case rcb7 =>
              try simp only [Act.put, List.setIfInBounds_toArray, List.set_cons_zero, List.set_cons_succ]
              refine takeH 7 53 (v := ?vcb8) rfl rfl (by kernel_rfl) (by kernel_rfl) (by kernel_rfl) (fun _ _ _ h => h) (Or.inl ⟨by rfl, ?hcb8⟩) hH0 ?rcb8
              case hcb8 => (intro w hSw; clear hSw; go_simp; (try with_reducible rfl))
              case rcb8 =>
              try simp only [Act.put, List.setIfInBounds_toArray, List.set_cons_zero, List.set_cons_succ]
              refine takeH 8 54 (v := ?vcb9) rfl rfl (by kernel_rfl) (by kernel_rfl) (by kernel_rfl) (fun _ _ _ h => h) (Or.inl ⟨by rfl, ?hcb9⟩) hH0 ?rcb9
              case hcb9 => (intro w hSw; clear hSw; go_simp; (try with_reducible rfl))
              case rcb9 =>
              try simp only [Act.put, List.setIfInBounds_toArray, List.set_cons_zero, List.set_cons_succ]
              refine takeH 9 55 (v := ?vcb10) rfl rfl (by kernel_rfl) (by kernel_rfl) (by kernel_rfl) (fun _ _ _ h => h) (Or.inl ⟨by rfl, ?hcb10⟩) hH0 ?rcb10
              case hcb10 => (intro w hSw; clear hSw; go_simp; (try with_reducible rfl))
              case rcb10 =>
              try simp only [Act.put, List.setIfInBounds_toArray, List.set_cons_zero, List.set_cons_succ]
              refine takeH 10 56 (v := ?vcb11) rfl rfl (by kernel_rfl) (by kernel_rfl) (by kernel_rfl) (fun _ _ _ h => h) (Or.inl ⟨by rfl, ?hcb11⟩) hH0 ?rcb11
              case hcb11 => (intro w hSw; obtain ⟨s0, s1, s2, s3, s4, s5, s6, s7, s8, s9⟩ := hSw; go_simp; (try with_reducible rfl))
              case rcb11 =>
              try simp only [Act.put, List.setIfInBounds_toArray, List.set_cons_zero, List.set_cons_succ]
              refine takeH 12 58 (v := ?vcb12) rfl rfl (by kernel_rfl) (by kernel_rfl) (by kernel_rfl) (fun _ _ _ h => h) (Or.inl ⟨by rfl, ?hcb12⟩) hH0 ?rcb12
              case hcb12 => (intro w hSw; clear hSw; go_simp; (try with_reducible rfl))
              case rcb12 =>
              try simp only [Act.put, List.setIfInBounds_toArray, List.set_cons_zero, List.set_cons_succ]
              refine takeH 13 59 (v := ?vcb13) rfl rfl (by kernel_rfl) (by kernel_rfl) (by kernel_rfl) (fun _ _ _ h => h) (Or.inl ⟨by rfl, ?hcb13⟩) hH0 ?rcb13
              case hcb13 => (intro w hSw; obtain ⟨s0, s1, s2, s3, s4, s5, s6, s7, s8, s9⟩ := hSw; go_simp; (try with_reducible rfl))
              case rcb13 =>
              try simp only [Act.put, List.setIfInBounds_toArray, List.set_cons_zero, List.set_cons_succ]
              refine takeH 14 60 (v := ?vcb14) rfl rfl (by kernel_rfl) (by kernel_rfl) (by kernel_rfl) (fun _ _ _ h => h) (Or.inl ⟨by rfl, ?hcb14⟩) hH0 ?rcb14
              case hcb14 => (intro w hSw; clear hSw; go_simp; (try with_reducible rfl))
              case rcb14 =>
              try simp only [Act.put, List.setIfInBounds_toArray, List.set_cons_zero, List.set_cons_succ]
              refine takeH 15 61 (v := ?vcb15) rfl rfl (by kernel_rfl) (by kernel_rfl) (by kernel_rfl) (fun _ _ _ h => h) (Or.inl ⟨by rfl, ?hcb15⟩) hH0 ?rcb15
              case hcb15 => (intro w hSw; clear hSw; go_simp; (try with_reducible rfl))
              case rcb15 =>
              try simp only [Act.put, List.setIfInBounds_toArray, List.set_cons_zero, List.set_cons_succ]
              refine takeH 16 62 (v := ?vcb16) rfl rfl (by kernel_rfl) (by kernel_rfl) (by kernel_rfl) (fun _ _ _ h => h) (Or.inl ⟨by rfl, ?hcb16⟩) hH0 ?rcb16
              case hcb16 => (intro w hSw; clear hSw; go_simp; (try with_reducible rfl))
              case rcb16 =>
              try simp only [Act.put, List.setIfInBounds_toArray, List.set_cons_zero, List.set_cons_succ]
              refine takeH 17 63 (v := ?vcb17) rfl rfl (by kernel_rfl) (by kernel_rfl) (by kernel_rfl) (fun _ _ _ h => h) (Or.inl ⟨by rfl, ?hcb17⟩) hH0 ?rcb17
              case hcb17 => (intro w hSw; obtain ⟨s0, s1, s2, s3, s4, s5, s6, s7, s8, s9⟩ := hSw; go_simp; (try with_reducible rfl))
              case rcb17 =>
              try simp only [Act.put, List.setIfInBounds_toArray, List.set_cons_zero, List.set_cons_succ]
              refine callH 11 (by kernel_rfl) rfl 57 rfl rfl 111 Tryz.func111 (by kernel_rfl) (by kernel_rfl) #[.tmp 50, .tmp 56] #[79, 9] rfl #[.agg #[.string tn, .slice ca cn cc, .int .i64 (u.pk : Int), .int .i64 ix], .string c.col] (by simp [Act.eval]) (R := fun v w' => v = .int .i64 (m : Int) ∧ Only (fun _ => False) wr.drew w') ((unhide C1).mono (by rintro en w' ⟨rfl, o⟩; exact ⟨_, rfl, rfl, o⟩)) ?kcc
              case kcc =>
              rintro _ w6 ⟨rfl, o6⟩
              have oE : Only (fun _ => False) wr w6 := (Only.refl _ wr).drew.trans o6 (fun _ _ e => e)
              have S6 := unhide HSB w6 (oE.mono (fun _ _ e => e.elim))
              refine ⟨S6, ?_⟩
              try simp only [Act.put, List.setIfInBounds_toArray, List.set_cons_zero, List.set_cons_succ]
              refine takeH 18 64 (v := ?vcb18) rfl rfl (by kernel_rfl) (by kernel_rfl) (by kernel_rfl) (fun _ _ _ h => h) (Or.inl ⟨by rfl, ?hcb18⟩) S6 ?rcb18
              case hcb18 => (intro w hSw; clear hSw; go_simp; (try with_reducible rfl))
              case rcb18 =>
              try simp only [Act.put, List.setIfInBounds_toArray, List.set_cons_zero, List.set_cons_succ]
              have hV6 := (unhide HV).1.keep oE (fun _ _ e => e)
              refine storeH_any 19 (by kernel_rfl) rfl rfl rfl 152 _ _ rfl ⟨zg, m * 3, none⟩ (.agg #[.bool c.lit.str, .int .i64 c.lit.i, .string c.lit.s]) rfl rfl (hV6.storev (unhide HV).2.1 c.lit) (unhide HSB _ ((oE.mono (fun _ _ e => e.elim)).trans (only_setVl w6 zg m c.lit) (fun _ _ e => e))) ?_
              try simp only [Act.put, List.setIfInBounds_toArray, List.set_cons_zero, List.set_cons_succ]
              refine wpAnyH_done (by kernel_rfl) ?_ _
              have HQ := hide (And.intro (hV6.setv (unhide HV).2.1 c.lit) ((unhide HV).2.2.trans ((oE.mono (fun _ _ e => e.elim)).trans (only_setVl w6 zg m c.lit) (fun _ _ e => e)) (fun _ _ e => e)))
              rw [← unhide HNX] at HQ
              clear hV6 o6 oE S6 C1 HSB hsb0 hcx s0 s1 s2 s3 t7 d0 d2 d3 d4 HV HNX
              go_wp2_with fail
              go_roundw
              case rel => exact ⟨j + 1, by go_num, by omega, (unhide HQ).1, (unhide HQ).2⟩
              case measure => simp [intOf]; omega
            · have c1 : decide ((j : Int) < (st.sets.length : Int)) = false := decide_eq_false (by omega)
              have c1p : ¬ (j : Int) < (st.sets.length : Int) := by omega
              have hjE : st.sets.take j = st.sets := List.take_of_length_le (by omega)
              rw [hjE] at hV
              have e0 : wr.cell? ⟨k, 0, none⟩ = some (.pointer (some ⟨g, 0, none⟩)) := hQq.has.cell 0
              have kl := hQq.has.lt
              have t1 : wr.cell? ⟨H + 1, 1, none⟩ = some (.string st.table) := hIq.sv.cell 1
              have oD4 : Only (fun _ => False) wr wr.drew := (Only.refl _ wr).drew
              have Qd := hQq.quiet oD4
              have hwf2 : ∀ v ∈ setR u.cols st.sets z.2, v.wf := fun v hv => by
                have hzr := (unhide HG).2.2.2.1.subset (List.mem_of_getElem? (unhide HI).2.2.2.2.1)
                have h9 := (setR_ok st.sets z.2 (unhide HG).2.2.1 (((unhide HG).1.tb u (findD_mem (unhide HG).2.1).1).row _ hzr)).1
                exact (h9.2 v hv).1
              have hlen2 : (setR u.cols st.sets z.2).length ≤ 200 := by rw [setR_len, (unhide HI).2.2.2.2.2.1]; omega
              have CD := rupdate_any Qd.rx s st.table (hV.keep oD4 (fun _ _ e => e)) (fun b hb c => by (have hb' : zg = b := by simpa [Value.ownBlock] using hb); exact unhide nz (by rw [hb']; exact .inl c)) hlen2 hwf2
              have CD : Calls Tryz.prog 252 #[.pointer (some ⟨g, 0, none⟩), .int .i64 s, .string st.table, .slice (some ⟨zg, 0, none⟩) zn zc] wr.drew fun e w' => ∃ v, e = .returned v ∧ v = .int .i64 tk ∧ Rp q wr.drew g x (MiQ M s st u hit (i + 1)) Ki w' ∧ Only (fun b => q.S b ∨ Ki b) wr.drew w' := CD.mono (by
                intro e w' h
                obtain ⟨rfl, h2⟩ := qchg_step (unhide HG).1 (unhide HG).2.1 (unhide HG).2.2.1 (unhide HG).2.2.2.1 (unhide HI).2.2.2.2.1 (fun D => by unfold chg1; rw [if_neg (unhide HZZ).2.2.2.2.2.2.1]) h
                obtain ⟨K', r, hk', o⟩ := h2
                exact ⟨_, rfl, by rw [unhide Htk], ⟨K', r, hk', o⟩, o⟩)
              have CD := hide CD
              have HJ := hide (And.intro (hIq.quiet oD4) (And.intro Qd (show ∀ z' ∈ Z.drop (i + 1), OwnV wr.drew z'.1 z'.2 from fun z' hz' => by
                have hap2 := unhide HAPZ
                have hz1 : z'.1.ownBlock ≠ some zg := by
                  obtain ⟨hl, e⟩ := List.getElem?_eq_some_iff.mp hz
                  have hd : Z.drop i = z :: Z.drop (i + 1) := by rw [List.drop_eq_getElem_cons hl, e]
                  have hp3 : ApZ (Z.drop i) := hap2.sublist (List.drop_sublist _ _)
                  rw [hd] at hp3
                  exact (List.pairwise_cons.mp hp3).1 z' hz' zg (by rw [(unhide HZZ).1]; rfl)
                exact (((unhide HI).2.2.1 z' ((unhide HZZ).2.2.2.2.2.1 z' hz')).keep oQ (fun b hb (e : b = zg) => hz1 (by rw [← e]; exact hb))).keep oD4 (fun _ _ e => e))))
              clear hIq hQq hPk hV oQ Qd oD4 hwf2 hlen2 hjE
              go_upto_region 11 with fail
              refine wp_region_held_drew (S := (fun w' => w'.cell? ⟨k, 0, none⟩ = some (.pointer (some ⟨g, 0, none⟩)) ∧ w'.cell? ⟨H + 1, 1, none⟩ = some (.string st.table) ∧ w'.cell? ⟨hg, i, none⟩ = some (.slice (some ⟨zg, 0, none⟩) zn zc))) (by kernel_rfl) ⟨e0, t1, hcx⟩ (fun hH0 => ?_)
              refine takeH 0 65 (v := ?vud1) rfl rfl (by kernel_rfl) (by kernel_rfl) (by kernel_rfl) (fun _ _ _ h => h) (Or.inl ⟨by rfl, ?hud1⟩) hH0 ?rud1
              case hud1 => (intro w hSw; clear hSw; go_simp; (try with_reducible rfl))
              case rud1 =>
              try simp only [Act.put, List.setIfInBounds_toArray, List.set_cons_zero, List.set_cons_succ]
              refine takeH 1 66 (v := ?vud2) rfl rfl (by kernel_rfl) (by kernel_rfl) (by kernel_rfl) (fun _ _ _ h => h) (Or.inl ⟨by rfl, ?hud2⟩) hH0 ?rud2
              case hud2 => (intro w hSw; clear hSw; go_simp; (try with_reducible rfl))
              case rud2 =>
              try simp only [Act.put, List.setIfInBounds_toArray, List.set_cons_zero, List.set_cons_succ]
              refine takeH 2 67 (v := ?vud3) rfl rfl (by kernel_rfl) (by kernel_rfl) (by kernel_rfl) (fun _ _ _ h => h) (Or.inl ⟨by rfl, ?hud3⟩) hH0 ?rud3
              case hud3 => (intro w hSw; clear hSw; go_simp; (try with_reducible rfl))
              case rud3 =>
              try simp only [Act.put, List.setIfInBounds_toArray, List.set_cons_zero, List.set_cons_succ]
              refine takeH 3 68 (v := ?vud4) rfl rfl (by kernel_rfl) (by kernel_rfl) (by kernel_rfl) (fun _ _ _ h => h) (Or.inl ⟨by rfl, ?hud4⟩) hH0 ?rud4
              case hud4 => (intro w hSw; obtain ⟨s0, s1, s2⟩ := hSw; go_simp; (try with_reducible rfl))
              case rud4 =>
              try simp only [Act.put, List.setIfInBounds_toArray, List.set_cons_zero, List.set_cons_succ]
              refine takeH 4 69 (v := ?vud5) rfl rfl (by kernel_rfl) (by kernel_rfl) (by kernel_rfl) (fun _ _ _ h => h) (Or.inl ⟨by rfl, ?hud5⟩) hH0 ?rud5
              case hud5 => (intro w hSw; clear hSw; go_simp; (try with_reducible rfl))
              case rud5 =>
              try simp only [Act.put, List.setIfInBounds_toArray, List.set_cons_zero, List.set_cons_succ]
              refine takeH 5 70 (v := ?vud6) rfl rfl (by kernel_rfl) (by kernel_rfl) (by kernel_rfl) (fun _ _ _ h => h) (Or.inl ⟨by rfl, ?hud6⟩) hH0 ?rud6
              case hud6 => (intro w hSw; clear hSw; go_simp; (try with_reducible rfl))
              case rud6 =>
              try simp only [Act.put, List.setIfInBounds_toArray, List.set_cons_zero, List.set_cons_succ]
              refine takeH 6 71 (v := ?vud7) rfl rfl (by kernel_rfl) (by kernel_rfl) (by kernel_rfl) (fun _ _ _ h => h) (Or.inl ⟨by rfl, ?hud7⟩) hH0 ?rud7
              case hud7 => (intro w hSw; obtain ⟨s0, s1, s2⟩ := hSw; go_simp; (try with_reducible rfl))
              case rud7 =>
              try simp only [Act.put, List.setIfInBounds_toArray, List.set_cons_zero, List.set_cons_succ]
              refine takeH 7 72 (v := ?vud8) rfl rfl (by kernel_rfl) (by kernel_rfl) (by kernel_rfl) (fun _ _ _ h => h) (Or.inl ⟨by rfl, ?hud8⟩) hH0 ?rud8
              case hud8 => (intro w hSw; clear hSw; go_simp; (try with_reducible rfl))
              case rud8 =>
              try simp only [Act.put, List.setIfInBounds_toArray, List.set_cons_zero, List.set_cons_succ]
              refine takeH 8 73 (v := ?vud9) rfl rfl (by kernel_rfl) (by kernel_rfl) (by kernel_rfl) (fun _ _ _ h => h) (Or.inl ⟨by rfl, ?hud9⟩) hH0 ?rud9
              case hud9 => (intro w hSw; clear hSw; go_simp; (try with_reducible rfl))
              case rud9 =>
              try simp only [Act.put, List.setIfInBounds_toArray, List.set_cons_zero, List.set_cons_succ]
              refine takeH 9 74 (v := ?vud10) rfl rfl (by kernel_rfl) (by kernel_rfl) (by kernel_rfl) (fun _ _ _ h => h) (Or.inl ⟨by rfl, ?hud10⟩) hH0 ?rud10
              case hud10 => (intro w hSw; clear hSw; go_simp; (try with_reducible rfl))
              case rud10 =>
              try simp only [Act.put, List.setIfInBounds_toArray, List.set_cons_zero, List.set_cons_succ]
              refine takeH 10 75 (v := ?vud11) rfl rfl (by kernel_rfl) (by kernel_rfl) (by kernel_rfl) (fun _ _ _ h => h) (Or.inl ⟨by rfl, ?hud11⟩) hH0 ?rud11
              case hud11 => (intro w hSw; obtain ⟨s0, s1, s2⟩ := hSw; go_simp; (try with_reducible rfl))
              case rud11 =>
              try simp only [Act.put, List.setIfInBounds_toArray, List.set_cons_zero, List.set_cons_succ]
              refine callH 11 (by kernel_rfl) rfl 76 rfl rfl 252 Tryz.func252 (by kernel_rfl) (by kernel_rfl) #[.tmp 68, .tmp 69, .tmp 71, .tmp 75] #[28, 3, 9, 95] rfl #[.pointer (some ⟨g, 0, none⟩), .int .i64 s, .string st.table, .slice (some ⟨zg, 0, none⟩) zn zc] (by simp [Act.eval]) (R := fun v w' => v = .int .i64 tk ∧ Rp q wr.drew g x (MiQ M s st u hit (i + 1)) Ki w' ∧ Only (fun b => q.S b ∨ Ki b) wr.drew w') (unhide CD) ?kud
              case kud =>
              rintro _ w6 ⟨rfl, hrp, o6⟩
              have S6 : w6.cell? ⟨k, 0, none⟩ = some (.pointer (some ⟨g, 0, none⟩)) ∧ w6.cell? ⟨H + 1, 1, none⟩ = some (.string st.table) ∧ w6.cell? ⟨hg, i, none⟩ = some (.slice (some ⟨zg, 0, none⟩) zn zc) := ⟨cell_keep (hH0.1) o6 (unhide nk), cell_keep (hH0.2.1) o6 (unhide nT), cell_keep (hH0.2.2) o6 (unhide nh)⟩
              refine ⟨S6, ?_⟩
              try simp only [Act.put, List.setIfInBounds_toArray, List.set_cons_zero, List.set_cons_succ]
              refine takeH 12 12 (v := ?vud12) rfl rfl (by kernel_rfl) (by kernel_rfl) (by kernel_rfl) (fun _ _ _ h => h) (Or.inl ⟨by rfl, ?hud12⟩) S6 ?rud12
              case hud12 => (intro w hSw; clear hSw; go_simp; (try with_reducible rfl))
              case rud12 =>
              try simp only [Act.put, List.setIfInBounds_toArray, List.set_cons_zero, List.set_cons_succ]
              refine wpAnyH_done (by kernel_rfl) ?_ _
              have oD : Only (fun b => q.S b ∨ Ki b) wr w6 := (Only.refl (fun b => q.S b ∨ Ki b) wr).drew.trans o6 (fun _ _ e => e)
              clear hH0 S6
              have HE := hide (unhide HSTEP wr.drew (unhide HJ).1 (unhide HJ).2.1 (unhide HJ).2.2 w6 hrp)
              clear hrp o6 oD CD HI HJ HZZ e0 t1 hcx HSTEP tl kl
              go_wp2_with fail
              go_meet
              exact ⟨rfl, unhide HE⟩
      case rest =>
      obtain ⟨rfl, K', k1, k2, k3, k4⟩ := hcut
      have HE := hide (And.intro k1 (And.intro k2 (And.intro k3 k4)))
      have r0 : wc.cell? ⟨H + 2, 0, none⟩ = some (.int .i64 0) := k1.rb.cell 0
      have r1 : wc.cell? ⟨H + 2, 1, none⟩ = some (.int .i64 0) := k1.rb.cell 1
      have r2 : wc.cell? ⟨H + 2, 2, none⟩ = some (.slice none 0 0) := k1.rb.cell 2
      have r3 : wc.cell? ⟨H + 2, 3, none⟩ = some (.slice none 0 0) := k1.rb.cell 3
      have rf0 := k1.rb.free 0
      have rf1 := k1.rb.free 1
      have rf2 := k1.rb.free 2
      have rf3 := k1.rb.free 3
      have rl := k1.rb.lt
      clear k1 k2 k3 k4 hI hQ hK hZr O1 hcx t0 tl lts aps apK h3 HKI HSTEP hzd hzm hr hzl hzs own2 hzn
      generalize wc = w5 at *
      rcases unhide HTK with h0 | h0
      · subst h0
        clear r0 r1 r2 r3 rf0 rf1 rf2 rf3 rl
        go_wp2_with fail
        go_roundg (gk - 1)
        case measure => omega
        case rel => exact ⟨i + 1, K', by omega, by go_num, by omega, fun _ => (by first | rfl | trivial), (unhide HE).1, (unhide HE).2.1, (unhide HE).2.2.1, (unhide HE).2.2.2⟩
      · have hi00 : i = 0 := by
          by_cases c : 0 < i
          · have := hi0 c; omega
          · omega
        subst hi00
        subst h0
        have CF := hide (sqfailE_any 21 w5)
        go_wp2_with fail
        refine (unhide CF).mono ?_
        rintro e w6 ⟨rfl, o6⟩
        have I6 := (unhide HE).1.quiet o6
        have r0 : w6.cell? ⟨H + 2, 0, none⟩ = some (.int .i64 0) := I6.rb.cell 0
        have r1 : w6.cell? ⟨H + 2, 1, none⟩ = some (.int .i64 0) := I6.rb.cell 1
        have r2 : w6.cell? ⟨H + 2, 2, none⟩ = some (.slice none 0 0) := I6.rb.cell 2
        have r3 : w6.cell? ⟨H + 2, 3, none⟩ = some (.slice none 0 0) := I6.rb.cell 3
        have rf0 := I6.rb.free 0
        have rf1 := I6.rb.free 1
        have rf2 := I6.rb.free 2
        have rf3 := I6.rb.free 3
        have rl := I6.rb.lt
        have H5 := has_setAll [.int .i64 21, .int .i64 0, .slice none 0 0, .slice none 0 0] I6.rb rfl
        have O5 := only_setW (H + 2) [.int .i64 21, .int .i64 0, .slice none 0 0, .slice none 0 0] 0 w6
        have FF := hide (And.intro H5 (show ChP q w k g x Z K last (chgQ M s st u hit) (.returned (.agg #[.int .i64 21, .int .i64 0, .slice none 0 0, .slice none 0 0])) (setW (H + 2) [.int .i64 21, .int .i64 0, .slice none 0 0, .slice none 0 0] 0 w6) from (by
          have Qx := (unhide HE).2.1.quiet o6
          have hKx := (unhide HE).2.2.1
          obtain ⟨Kx, hKxe⟩ : ∃ x, x = K' := ⟨_, rfl⟩
          rw [← hKxe] at Qx hKx
          have hne : hit ≠ [] := fun c => by have h1 := (unhide HZL).1; have h2 := (unhide HZL).2; rw [c, List.length_nil] at h1; omega
          have hcq : chgQ M s st u hit = (MiQ M s st u hit (0 + 1), Rs.err 21) := by unfold chgQ; rw [if_neg hne, unhide Htk, if_pos (by omega), MiQ_no (by rw [unhide Htk]; omega)]
          rw [hcq]
          refine ⟨rfl, rfl, rfl, Kx, Qx.keep O5 (fun b hb (e : b = H + 2) => ?_), fun b hb => (hKx b hb).imp id (fun h => by rw [hH]; omega), I6.on.lateS O5 (fun b (e : b = H + 2) => by omega)⟩
          subst e
          have hh := unhide HAP
          have hm := hh.2.2
          rcases hb with c | c | c | c
          · have := hm.1 _ c; omega
          · have := hm.2.1; omega
          · exact (hKx _ c).elim (fun c => by have := hm.2.2.1 _ c; omega) (fun c => by omega)
          · have := hm.2.2.2; omega)))
        simp only [setW, Nat.zero_add, Nat.reduceAdd] at FF
        have e22 : H + 2 = H + 1 + 1 := rfl
        rw [e22] at FF
        clear e22 H5 O5 I6 HE
        go_wp2_with fail
        refine bodyPost_ret (sres_result rfl _ rfl (unhide FF).1 rfl) rfl ?_
        exact (unhide FF).2
    · have a1 : decide ((i : Int) < (hn : Int)) = false := decide_eq_false (by omega)
      have a1p : ¬ (i : Int) < (hn : Int) := by omega
      have hiE : i = hn := by omega
      have I6 := hI
      have HE := hide (And.intro hI (And.intro hQ hK))
      have r0 : wr.cell? ⟨H + 2, 0, none⟩ = some (.int .i64 0) := I6.rb.cell 0
      have r1 : wr.cell? ⟨H + 2, 1, none⟩ = some (.int .i64 0) := I6.rb.cell 1
      have r2 : wr.cell? ⟨H + 2, 2, none⟩ = some (.slice none 0 0) := I6.rb.cell 2
      have r3 : wr.cell? ⟨H + 2, 3, none⟩ = some (.slice none 0 0) := I6.rb.cell 3
      have rf0 := I6.rb.free 0
      have rf1 := I6.rb.free 1
      have rf2 := I6.rb.free 2
      have rf3 := I6.rb.free 3
      have rl := I6.rb.lt
      have H5 := has_setAll [.int .i64 0, .int .i64 (hn : Int), .slice none 0 0, .slice none 0 0] I6.rb rfl
      have O5 := only_setW (H + 2) [.int .i64 0, .int .i64 (hn : Int), .slice none 0 0, .slice none 0 0] 0 wr
      have FF := hide (And.intro H5 (show ChP q w k g x Z K last (chgQ M s st u hit) (.returned (.agg #[.int .i64 0, .int .i64 (hn : Int), .slice none 0 0, .slice none 0 0])) (setW (H + 2) [.int .i64 0, .int .i64 (hn : Int), .slice none 0 0, .slice none 0 0] 0 wr) from (by
        have Qx := (unhide HE).2.1
        have hKx := (unhide HE).2.2
        obtain ⟨Kx, hKxe⟩ : ∃ x, x = Ki := ⟨_, rfl⟩
        rw [← hKxe] at Qx hKx
        have h1 := (unhide HZL).1
        have h2 := (unhide HZL).2
        have hcq : chgQ M s st u hit = (MiQ M s st u hit i, Rs.cnt (hn : Int)) := by
          unfold chgQ
          by_cases hne : hit = []
          · rw [if_pos hne]
            rw [hne, List.length_nil] at h1
            have h0 : i = 0 := by omega
            have h00 : hn = 0 := by omega
            unfold MiQ
            rw [if_pos (.inl h0), h00]
            rfl
          · rw [if_neg hne]
            have hpos : 0 < hit.length := by rcases hit with _ | ⟨a, l⟩; exact absurd rfl hne; simp
            have h0 := hi0 (by omega)
            rw [unhide Htk, if_neg (fun c => c h0)]
            unfold MiQ
            rw [if_neg (fun c => c.elim (fun c => by omega) (fun c => c (by rw [unhide Htk]; exact h0))), List.take_of_length_le (by omega), show (hit.length : Int) = (hn : Int) by omega]
        rw [hcq]
        refine ⟨rfl, rfl, rfl, Kx, Qx.keep O5 (fun b hb (e : b = H + 2) => ?_), fun b hb => (hKx b hb).imp id (fun h => by rw [hH]; omega), I6.on.lateS O5 (fun b (e : b = H + 2) => by omega)⟩
        subst e
        have hh := unhide HAP
        have hm := hh.2.2
        rcases hb with c | c | c | c
        · have := hm.1 _ c; omega
        · have := hm.2.1; omega
        · exact (hKx _ c).elim (fun c => by have := hm.2.2.1 _ c; omega) (fun c => by omega)
        · have := hm.2.2.2; omega)))
      simp only [setW, Nat.zero_add, Nat.reduceAdd] at FF
      have e22 : H + 2 = H + 1 + 1 := rfl
      rw [e22] at FF
      clear e22 H5 O5 I6 HE
      clear hI hQ hK hZr hi0 hiE
      go_wp2_with fail
      refine bodyPost_ret (sres_result rfl _ rfl (unhide FF).1 rfl) rfl ?_
      exact (unhide FF).2
end
end Go.Proofs.Qxb6500412aGreat
