/-
  OWN WORK. QUERY: project (written by tools/gen_s35.py).
-/
import Derived.Test.Qxb6500412aGreatS34
import Derived.Test.Qxb6500412aGreatERw
import Derived.Test.Qxb6500412aGreatMM1
namespace Go.Proofs.Qxb6500412aGreat
open Go.RowKit Go.PlainAid
set_option linter.unusedSimpArgs false
set_option linter.unusedVariables false

/-- An answer in memory: cells, names, rows. -/
structure RsM (lo : Nat) (w : World) (cv rv : Value) (R : Rs) : Prop where
  cn : OwnN w cv R.cols
  rl : ∃ Y, RL lo rv Y w ∧ Y.map (·.2) = R.rows
/-- What project answers. -/
def PjP (w : World) (hv lv : Value) (R : Rs) (e : Ending) (w' : World) : Prop :=
  ∃ na nn nc ra rn rc, e = .returned (.agg #[.int .i64 R.e, .int .i64 R.n, .slice na nn nc, .slice ra rn rc]) ∧ RsM w.heap.size w' (.slice na nn nc) (.slice ra rn rc) R ∧ (∀ b, (Value.slice na nn nc).ownBlock = some b → lv.ownBlock = some b ∨ w.heap.size ≤ b) ∧ Only (fun b => hv.ownBlock = some b ∨ lv.ownBlock = some b) w w'
/-- The copies of schema and statement, the result's block, the columns. -/
structure PjI (H : Nat) (sc sv : Array Value) (cv : Value) (cols : List Cl) (wr : World) : Prop where
  sc : Has wr H sc 79
  sv : Has wr (H + 1) sv 173
  rb : Has wr (H + 2) #[.int .i64 0, .int .i64 0, .slice none 0 0, .slice none 0 0] 52
  oc : OwnC wr cv cols
section
variable {w wr wx : World} {ca ha : Option Addr} {cn cc hn hc : Nat} {cols : List Cl} {tn : ByteArray} {pk ix : Int} {lo H : Nat} {S : Sq} {st : St} {Z : List (Value × List Vl)} {sc sv : Array Value} {cv : Value}
theorem PjI.keep {B : Nat → Prop} (h : PjI H sc sv cv cols wr) (o : Only B wr wx) (hB : ∀ b, b = H ∨ b = H + 1 ∨ b = H + 2 ∨ cv.ownBlock = some b → ¬ B b) : PjI H sc sv cv cols wx :=
  ⟨h.sc.keep o (hB _ (.inl rfl)), h.sv.keep o (hB _ (.inr (.inl rfl))), h.rb.keep o (hB _ (.inr (.inr (.inl rfl)))), h.oc.keep o (fun b hb => hB b (.inr (.inr (.inr hb))))⟩
theorem PjI.quiet (h : PjI H sc sv cv cols wr) (o : Only (fun _ => False) wr wx) : PjI H sc sv cv cols wx := h.keep o (fun _ _ e => e)
/-- A list of rows, of strings: their blocks are none of these. -/
theorem PjI.apE (h : PjI H sc sv cv cols wr) {v : Value} {n : Nat} {xs : List Value} {ty : TypeId} {k : Nat} (hv : wr.ownsRow 0 ty k v n xs) (h1 : ty ≠ 79) (h2 : ty ≠ 173) (h3 : ty ≠ 52) (h4 : ty ≠ 149) : ∀ b, b = H ∨ b = H + 1 ∨ b = H + 2 ∨ cv.ownBlock = some b → ¬ v.ownBlock = some b := by
  intro b hb e
  rcases hb with c | c | c | c
  · exact ownsRow_ne hv h.sc h1 b e c
  · exact ownsRow_ne hv h.sv h2 b e c
  · exact ownsRow_ne hv h.rb h3 b e c
  · obtain ⟨c0, hc0⟩ := ownsRow_has h.oc c
    exact ownsRow_ne hv hc0 h4 b e rfl
theorem RL.sorted {v : Value} {Z Z' : List (Value × List Vl)} (h : RL lo v Z wr) (o : Only (fun b => v.ownBlock = some b) wr wx) (hp : Z'.Perm Z) (hw : wx.ownsRow 0 95 1 v Z.length (Z'.map (·.1))) : RL lo v Z' wx := by
  refine ⟨by rw [hp.length_eq]; exact hw, fun z hz => ?_, h.nb, (hp.pairwise_iff (fun {a b} h c hc1 hc2 => h c hc2 hc1)).mpr h.ap⟩
  have h1 := h.row z (hp.mem_iff.mp hz)
  refine ⟨h1.1.keep o (fun b hb2 e => ?_), h1.2⟩
  obtain ⟨cc2, hc2⟩ := ownsRow_has h.own e
  exact ownsRow_ne h1.1 hc2 (by decide) b hb2 rfl
theorem RL.keep {Bx : Nat → Prop} {v : Value} {Z : List (Value × List Vl)} (h : RL lo v Z wr) (o : Only Bx wr wx) (k1 : ∀ b, v.ownBlock = some b → ¬ Bx b) (k2 : ∀ z ∈ Z, ∀ b, z.1.ownBlock = some b → ¬ Bx b) : RL lo v Z wx := ⟨ownsRow_keep h.own o k1, fun z hz => ⟨(h.row z hz).1.keep o (k2 z hz), (h.row z hz).2⟩, h.nb, h.ap⟩
/-- One row more. -/
theorem RL.push {v v' : Value} {Z : List (Value × List Vl)} {y : Value} {r : List Vl} {oc : Obj} (h : RL lo v Z wr) (hy : OwnV wr y r) (hyl : ∀ b, y.ownBlock = some b → lo ≤ b) (hyn : ∀ z ∈ Z, ∀ b, z.1.ownBlock = some b → y.ownBlock ≠ some b) (hlo : lo ≤ wr.heap.size) (hown : wx.ownsRow 0 95 1 v' (Z.length + 1) (Z.map (·.1) ++ [y])) (hgrow : (wr.alloc oc).grownBy wx v.ownBlock) (hwhere : ∀ b, v'.ownBlock = some b → v.ownBlock = some b ∨ b = wr.heap.size + 1) : RL lo v' (Z ++ [(y, r)]) wx ∧ Only (fun b => v.ownBlock = some b) wr wx := by
  have o : Only (fun b => v.ownBlock = some b) wr wx := ((Only.refl (fun b => v.ownBlock = some b) wr).alloc _).grown hgrow (fun b hb _ => hb)
  have ne : ∀ {u : Value} {l : List Vl}, OwnV wr u l → ∀ b, u.ownBlock = some b → ¬ v.ownBlock = some b := fun hu b hb e => by
    obtain ⟨c0, hc0⟩ := ownsRow_has h.own e
    exact ownsRow_ne hu hc0 (by decide) b hb rfl
  refine ⟨⟨by rw [List.length_append, List.map_append]; exact hown, fun z hz => ?_, fun b hb => ?_, ?_⟩, o⟩
  · rcases List.mem_append.mp hz with c | c
    · exact ⟨(h.row z c).1.keep o (ne (h.row z c).1), (h.row z c).2⟩
    · rw [List.mem_singleton] at c
      subst c
      exact ⟨hy.keep o (ne hy), hyl⟩
  · rcases hwhere b hb with c | c
    · exact h.nb b c
    · omega
  · unfold ApZ
    rw [List.pairwise_append]
    refine ⟨h.ap, List.pairwise_singleton _ _, fun a ha b hb k hk => ?_⟩
    rw [List.mem_singleton] at hb
    subst hb
    exact hyn a ha k hk
theorem colsD_in {cols : List Cl} {st : St} (h : ∀ n ∈ st.list, 0 ≤ qcol cols n) : ∀ n ∈ colsD cols st, 0 ≤ qcol cols n := by
  intro n hn
  unfold colsD at hn
  split at hn
  · rcases List.mem_append.mp hn with c | c
    · exact h n c
    · obtain ⟨c0, hc0, rfl⟩ := List.mem_map.mp c
      rcases qcol_spec cols c0.1 with ⟨_, h2⟩ | ⟨j, y, h1, h2, h3, h4⟩
      · exact absurd rfl (h2 c0 hc0)
      · rw [h3]; omega
  · exact h n hn
set_option maxRecDepth 100000 in
set_option maxHeartbeats 32000000 in
theorem sqproject_any (hC : OwnC w (.slice ca cn cc) cols) (hcl : cols.length ≤ 3) (hL : SQL 0 w S) (hO : SqOf S st) (hR : RL lo (.slice ha hn hc) Z w) (hZ8 : Z.length ≤ 8) (hrow : ∀ z ∈ Z, z.2.length = cols.length) (hord : st.order ≠ ⟨#[]⟩ → 0 ≤ qcol cols st.order) (hnm : ∀ n ∈ st.list, 0 ≤ qcol cols n) (hll : st.list.length ≤ 200) : Calls Tryz.prog 173 #[schU tn (.slice ca cn cc) pk ix, .agg (tabV 13 S.cell), .slice ha hn hc] w (PjP w (.slice ha hn hc) (S.cell 6) (prjD cols st (Z.map (·.2)))) := by
  obtain ⟨i0, hi0, hz0, hz1, hz2⟩ := info_parts Tryz.infoEVals
  obtain ⟨j0, hj0, hy0, hy1, hy2⟩ := info_parts Tryz.infoEStr
  unfold schU
  obtain ⟨a2, n2, c2, a4, n4, c4, a6, n6, c6, a7, n7, c7, a8, n8, c8, hcs⟩ := hO.cells_ hL
  have x6 := hL.own 6 (by unfold sqj; omega)
  have q6 : S.cell 6 = .slice a6 n6 c6 := by
    have := congrArg (·[6]?) hcs
    simpa [tabV_get] using this
  rw [q6, hO.x6.1, hO.x6.2] at x6
  rw [q6, hcs]
  have x6 : OwnN w (.slice a6 n6 c6) st.list := x6
  have h6 : n6 = st.list.length := by obtain ⟨_, _, e⟩ := ownsRow_shape x6; cases e; rfl
  subst h6
  obtain ⟨zn, hzn⟩ : ∃ n, Z.length = n := ⟨_, rfl⟩
  have hh : hn = zn := by obtain ⟨_, _, e⟩ := ownsRow_shape hR.own; cases e; exact hzn
  subst hh
  have o0 : Only (fun _ => False) w (w.alloc (.cells #[.string tn, .slice ca cn cc, .int .i64 pk, .int .i64 ix] 79)) := (Only.refl _ w).alloc _
  have o1 : Only (fun _ => False) (w.alloc (.cells #[.string tn, .slice ca cn cc, .int .i64 pk, .int .i64 ix] 79)) ((w.alloc (.cells #[.string tn, .slice ca cn cc, .int .i64 pk, .int .i64 ix] 79)).alloc (.cells #[.int .i64 st.kind, .string st.table, .slice a2 n2 c2, .int .i64 st.pk, .slice a4 n4 c4, .bool st.star, .slice a6 st.list.length c6, .slice a7 n7 c7, .slice a8 n8 c8, .string st.order, .bool st.desc, .bool st.hasL, .int .i64 st.lim] 173)) := (Only.refl _ _).alloc _
  have o2 : Only (fun _ => False) ((w.alloc (.cells #[.string tn, .slice ca cn cc, .int .i64 pk, .int .i64 ix] 79)).alloc (.cells #[.int .i64 st.kind, .string st.table, .slice a2 n2 c2, .int .i64 st.pk, .slice a4 n4 c4, .bool st.star, .slice a6 st.list.length c6, .slice a7 n7 c7, .slice a8 n8 c8, .string st.order, .bool st.desc, .bool st.hasL, .int .i64 st.lim] 173)) (((w.alloc (.cells #[.string tn, .slice ca cn cc, .int .i64 pk, .int .i64 ix] 79)).alloc (.cells #[.int .i64 st.kind, .string st.table, .slice a2 n2 c2, .int .i64 st.pk, .slice a4 n4 c4, .bool st.star, .slice a6 st.list.length c6, .slice a7 n7 c7, .slice a8 n8 c8, .string st.order, .bool st.desc, .bool st.hasL, .int .i64 st.lim] 173)).alloc (.cells #[.int .i64 0, .int .i64 0, .slice none 0 0, .slice none 0 0] 52)) := (Only.refl _ _).alloc _
  have N0 := Has.new w #[.string tn, .slice ca cn cc, .int .i64 pk, .int .i64 ix] 79
  have N1 := Has.new' (w.alloc (.cells #[.string tn, .slice ca cn cc, .int .i64 pk, .int .i64 ix] 79)) #[.int .i64 st.kind, .string st.table, .slice a2 n2 c2, .int .i64 st.pk, .slice a4 n4 c4, .bool st.star, .slice a6 st.list.length c6, .slice a7 n7 c7, .slice a8 n8 c8, .string st.order, .bool st.desc, .bool st.hasL, .int .i64 st.lim] 173 (w.heap.size + 1) (by simp)
  have N2 := Has.new' ((w.alloc (.cells #[.string tn, .slice ca cn cc, .int .i64 pk, .int .i64 ix] 79)).alloc (.cells #[.int .i64 st.kind, .string st.table, .slice a2 n2 c2, .int .i64 st.pk, .slice a4 n4 c4, .bool st.star, .slice a6 st.list.length c6, .slice a7 n7 c7, .slice a8 n8 c8, .string st.order, .bool st.desc, .bool st.hasL, .int .i64 st.lim] 173)) #[.int .i64 0, .int .i64 0, .slice none 0 0, .slice none 0 0] 52 (w.heap.size + 2) (by simp)
  have oA := (o0.trans o1 (fun _ _ e => e)).trans o2 (fun _ _ e => e)
  have HA := hide (show PjI w.heap.size #[.string tn, .slice ca cn cc, .int .i64 pk, .int .i64 ix] #[.int .i64 st.kind, .string st.table, .slice a2 n2 c2, .int .i64 st.pk, .slice a4 n4 c4, .bool st.star, .slice a6 st.list.length c6, .slice a7 n7 c7, .slice a8 n8 c8, .string st.order, .bool st.desc, .bool st.hasL, .int .i64 st.lim] (.slice ca cn cc) cols (((w.alloc (.cells #[.string tn, .slice ca cn cc, .int .i64 pk, .int .i64 ix] 79)).alloc (.cells #[.int .i64 st.kind, .string st.table, .slice a2 n2 c2, .int .i64 st.pk, .slice a4 n4 c4, .bool st.star, .slice a6 st.list.length c6, .slice a7 n7 c7, .slice a8 n8 c8, .string st.order, .bool st.desc, .bool st.hasL, .int .i64 st.lim] 173)).alloc (.cells #[.int .i64 0, .int .i64 0, .slice none 0 0, .slice none 0 0] 52)) ∧ RL lo (.slice ha hn hc) Z (((w.alloc (.cells #[.string tn, .slice ca cn cc, .int .i64 pk, .int .i64 ix] 79)).alloc (.cells #[.int .i64 st.kind, .string st.table, .slice a2 n2 c2, .int .i64 st.pk, .slice a4 n4 c4, .bool st.star, .slice a6 st.list.length c6, .slice a7 n7 c7, .slice a8 n8 c8, .string st.order, .bool st.desc, .bool st.hasL, .int .i64 st.lim] 173)).alloc (.cells #[.int .i64 0, .int .i64 0, .slice none 0 0, .slice none 0 0] 52)) ∧ OwnN (((w.alloc (.cells #[.string tn, .slice ca cn cc, .int .i64 pk, .int .i64 ix] 79)).alloc (.cells #[.int .i64 st.kind, .string st.table, .slice a2 n2 c2, .int .i64 st.pk, .slice a4 n4 c4, .bool st.star, .slice a6 st.list.length c6, .slice a7 n7 c7, .slice a8 n8 c8, .string st.order, .bool st.desc, .bool st.hasL, .int .i64 st.lim] 173)).alloc (.cells #[.int .i64 0, .int .i64 0, .slice none 0 0, .slice none 0 0] 52)) (.slice a6 st.list.length c6) st.list ∧ Only (fun b => (Value.slice ha hn hc).ownBlock = some b ∨ (Value.slice a6 st.list.length c6).ownBlock = some b) w (((w.alloc (.cells #[.string tn, .slice ca cn cc, .int .i64 pk, .int .i64 ix] 79)).alloc (.cells #[.int .i64 st.kind, .string st.table, .slice a2 n2 c2, .int .i64 st.pk, .slice a4 n4 c4, .bool st.star, .slice a6 st.list.length c6, .slice a7 n7 c7, .slice a8 n8 c8, .string st.order, .bool st.desc, .bool st.hasL, .int .i64 st.lim] 173)).alloc (.cells #[.int .i64 0, .int .i64 0, .slice none 0 0, .slice none 0 0] 52)) from ⟨⟨(N0.keep o1 (fun e => e)).keep o2 (fun e => e), N1.keep o2 (fun e => e), N2, hC.keep oA (fun _ _ e => e)⟩, hR.quiet oA, ownsRow_keep x6 oA (fun _ _ e => e), oA.mono (fun _ _ e => e.elim)⟩)
  have HHL := hide (show ∀ b, (Value.slice ha hn hc).ownBlock = some b → b < w.heap.size from ownsRow_lt hR.own)
  have HP := hide (And.intro hrow (And.intro hord (And.intro hnm hzn)))
  rw [hzn] at hZ8
  obtain ⟨R, hRd⟩ : ∃ R, prjD cols st (Z.map (·.2)) = R := ⟨_, rfl⟩
  rw [hRd]
  have HRd := hide hRd
  clear o0 o1 o2 N0 N1 N2 oA hC hL hO x6 q6 hcs hR hrow hord hnm hzn hRd
  go_enter Tryz.func173, Tryz.ntmps173
  go_upto_region 1 with fail
  generalize ((w.alloc (.cells #[.string tn, .slice ca cn cc, .int .i64 pk, .int .i64 ix] 79)).alloc (.cells #[.int .i64 st.kind, .string st.table, .slice a2 n2 c2, .int .i64 st.pk, .slice a4 n4 c4, .bool st.star, .slice a6 st.list.length c6, .slice a7 n7 c7, .slice a8 n8 c8, .string st.order, .bool st.desc, .bool st.hasL, .int .i64 st.lim] 173)).alloc (.cells #[.int .i64 0, .int .i64 0, .slice none 0 0, .slice none 0 0] 52) = w1 at *
  generalize hH : w.heap.size = H at *
  have t9 : w1.cell? ⟨H + 1, 9, none⟩ = some (.string st.order) := (unhide HA).1.sv.cell 9
  have tl := (unhide HA).1.sv.lt
  go_cut [16] from 14 to 15 (fun bv wx => bv = .bool (decide (st.order ≠ ⟨#[]⟩)) ∧ w1 = wx)
  case first =>
    by_cases ho : st.order = ⟨#[]⟩
    · have q0 : (st.order.toList == []) = true := by have h2 := seq_t (a := st.order) (b := ⟨#[]⟩) ho; rwa [show (⟨#[]⟩ : ByteArray).toList = [] from by simp] at h2
      have HE := hide (show decide (st.order ≠ ⟨#[]⟩) = false from decide_eq_false (fun c => c ho))
      clear ho
      go_wp2_with fail
      go_meet
      exact ⟨by rw [unhide HE], rfl⟩
    · have q0 : (st.order.toList == []) = false := by have h2 := seq_f (a := st.order) (b := ⟨#[]⟩) ho; rwa [show (⟨#[]⟩ : ByteArray).toList = [] from by simp] at h2
      have HE := hide (show decide (st.order ≠ ⟨#[]⟩) = true from decide_eq_true ho)
      clear ho
      go_wp2_with fail
      go_meet
      exact ⟨by rw [unhide HE], rfl⟩
  case rest =>
  obtain ⟨rfl, rfl⟩ := hcut
  obtain ⟨ob, hob⟩ : ∃ b, decide (st.order ≠ ⟨#[]⟩) = b := ⟨_, rfl⟩
  rw [hob]
  have HOB := hide hob
  clear hob
  go_upto_if 16 with fail
  go_cut [7] from 17 to 25 (fun _ wx => ∃ Z', RL lo (.slice ha hn hc) Z' wx ∧ Z'.Perm Z ∧ Z'.map (·.2) = ordD cols st (Z.map (·.2)) ∧ Only (fun b => (Value.slice ha hn hc).ownBlock = some b) w1 wx)
  case first =>
    cases ob with
    | false =>
      have ho : st.order = ⟨#[]⟩ := Classical.byContradiction (fun c => of_decide_eq_false (unhide HOB) c)
      have HE := hide (show ordD cols st (Z.map (·.2)) = Z.map (·.2) by unfold ordD; rw [if_pos ho])
      clear ho
      go_wp2_with fail
      go_meet
      exact ⟨Z, (unhide HA).2.1, List.Perm.refl _, (unhide HE).symm, Only.refl _ _⟩
    | true =>
      have ho : st.order ≠ ⟨#[]⟩ := of_decide_eq_true (unhide HOB)
      have h0 := (unhide HP).2.1 ho
      have hqr := qcol_rng cols st.order
      obtain ⟨m, hm⟩ : ∃ m : Nat, qcol cols st.order = (m : Int) := ⟨(qcol cols st.order).toNat, by omega⟩
      have s0 : w1.cell? ⟨H, 0, none⟩ = some (.string tn) := (unhide HA).1.sc.cell 0
      have s1 : w1.cell? ⟨H, 1, none⟩ = some (.slice ca cn cc) := (unhide HA).1.sc.cell 1
      have s2 : w1.cell? ⟨H, 2, none⟩ = some (.int .i64 pk) := (unhide HA).1.sc.cell 2
      have s3 : w1.cell? ⟨H, 3, none⟩ = some (.int .i64 ix) := (unhide HA).1.sc.cell 3
      have sl := (unhide HA).1.sc.lt
      have C1 := sqcolOf_any (tn := tn) (pk := pk) (ix := ix) (unhide HA).1.oc (by omega) st.order
      unfold schU at C1
      rw [hm] at C1
      have C1 := hide C1
      have hml : m < cols.length := by omega
      have HE := hide (show ordD cols st (Z.map (·.2)) = (if st.desc = true then sortP (cmpRd m) (Z.map (·.2)) else sortP (cmpR m) (Z.map (·.2))) by unfold ordD; rw [if_neg ho, hm]; rfl)
      have Hml := hide hml
      clear ho h0 hqr hm hml
      go_wp2_with fail
      refine (unhide C1).mono ?_
      rintro e w2 ⟨rfl, o2⟩
      have t10 : w2.cell? ⟨H + 1, 10, none⟩ = some (.bool st.desc) := o2.cellS ((unhide HA).1.sv.cell 10)
      have tl2 : H + 1 < w2.heap.size := Nat.lt_of_lt_of_le tl o2.size
      have R2 := (unhide HA).2.1.quiet o2
      have HO2 := hide o2
      have hzn := (unhide HP).2.2.2
      have hrc : ∀ z ∈ Z, OwnV w2 z.1 z.2 ∧ m < z.2.length := fun z hz => ⟨(R2.row z hz).1, by rw [(unhide HP).1 z hz]; exact unhide Hml⟩
      have own2 := R2.own
      have HR2 := hide R2
      obtain ⟨ds, hds⟩ : ∃ b, st.desc = b := ⟨_, rfl⟩
      rw [hds] at HE t10
      clear C1 o2 s0 s1 s2 s3 sl t9 R2 hds
      cases ds with
      | true =>
        have CS := msortD_any (c := m) own2 hrc (by omega)
        rw [hzn] at CS
        have CS := hide CS
        clear own2 hrc hzn
        go_wp2_with fail
        refine (unhide CS).mono ?_
        rintro e w3 ⟨rfl, h1, h2⟩
        have HF := hide (show ∃ Z', RL lo (.slice ha hn hc) Z' w3 ∧ Z'.Perm Z ∧ Z'.map (·.2) = ordD cols st (Z.map (·.2)) ∧ Only (fun b => (Value.slice ha hn hc).ownBlock = some b) w1 w3 from ⟨sortP (cmpZd m) Z, (unhide HR2).sorted h2 (sortP_perm _ _) (by rw [(unhide HP).2.2.2]; exact h1), sortP_perm _ _, by rw [unhide HE]; exact sortP_map (st := cmpRd m) (fun z : Value × List Vl => z.2) Z, ((unhide HO2).mono (fun _ _ e => e.elim)).trans h2 (fun _ _ e => e)⟩)
        clear h1 h2 CS t10
        go_wp2_with fail
        go_meet
        exact unhide HF
      | false =>
        have CS := msort_any (c := m) own2 hrc (by omega)
        rw [hzn] at CS
        have CS := hide CS
        clear own2 hrc hzn
        go_wp2_with fail
        refine (unhide CS).mono ?_
        rintro e w3 ⟨rfl, h1, h2⟩
        have HF := hide (show ∃ Z', RL lo (.slice ha hn hc) Z' w3 ∧ Z'.Perm Z ∧ Z'.map (·.2) = ordD cols st (Z.map (·.2)) ∧ Only (fun b => (Value.slice ha hn hc).ownBlock = some b) w1 w3 from ⟨sortP (cmpZ m) Z, (unhide HR2).sorted h2 (sortP_perm _ _) (by rw [(unhide HP).2.2.2]; exact h1), sortP_perm _ _, by rw [unhide HE]; exact sortP_map (st := cmpR m) (fun z : Value × List Vl => z.2) Z, ((unhide HO2).mono (fun _ _ e => e.elim)).trans h2 (fun _ _ e => e)⟩)
        clear h1 h2 CS t10
        go_wp2_with fail
        go_meet
        exact unhide HF
  case rest =>
  obtain ⟨Z', hR2, hpm, hzo, oC⟩ := hcut
  have HA2 := hide (show PjI H #[.string tn, .slice ca cn cc, .int .i64 pk, .int .i64 ix] #[.int .i64 st.kind, .string st.table, .slice a2 n2 c2, .int .i64 st.pk, .slice a4 n4 c4, .bool st.star, .slice a6 st.list.length c6, .slice a7 n7 c7, .slice a8 n8 c8, .string st.order, .bool st.desc, .bool st.hasL, .int .i64 st.lim] (.slice ca cn cc) cols wc ∧ RL lo (.slice ha hn hc) Z' wc ∧ OwnN wc (.slice a6 st.list.length c6) st.list ∧ Only (fun b => (Value.slice ha hn hc).ownBlock = some b ∨ (Value.slice a6 st.list.length c6).ownBlock = some b) w wc from
    ⟨(unhide HA).1.keep oC (fun b hb e => (unhide HA).1.apE (unhide HA).2.1.own (by decide) (by decide) (by decide) (by decide) b hb e), hR2, ownsRow_keep (unhide HA).2.2.1 oC (fun b hb e => by
      obtain ⟨c0, hc0⟩ := ownsRow_has (unhide HA).2.1.own e
      exact ownsRow_ne (unhide HA).2.2.1 hc0 (by decide) b hb rfl), (unhide HA).2.2.2.trans (oC.mono (fun _ _ e => .inl e)) (fun _ _ e => e)⟩)
  have HZ := hide (show Z'.length = hn ∧ (∀ z ∈ Z', z.2.length = cols.length) ∧ Z'.map (·.2) = ordD cols st (Z.map (·.2)) from ⟨by rw [hpm.length_eq]; exact (unhide HP).2.2.2, fun z hz => (unhide HP).1 z (hpm.mem_iff.mp hz), hzo⟩)
  clear hR2 hpm hzo oC HA t9 tl
  generalize wc = w2 at *
  have t11 : w2.cell? ⟨H + 1, 11, none⟩ = some (.bool st.hasL) := (unhide HA2).1.sv.cell 11
  have t12 : w2.cell? ⟨H + 1, 12, none⟩ = some (.int .i64 st.lim) := (unhide HA2).1.sv.cell 12
  have t6 : w2.cell? ⟨H + 1, 6, none⟩ = some (.slice a6 st.list.length c6) := (unhide HA2).1.sv.cell 6
  have tl := (unhide HA2).1.sv.lt
  go_upto_region 5 with fail
  go_cut [35] from 28 to 34 (fun bv wx => bv = .bool (decide (st.hasL = true ∧ st.lim < (hn : Int))) ∧ w2 = wx)
  case first =>
    obtain ⟨hb, hhb⟩ : ∃ b, st.hasL = b := ⟨_, rfl⟩
    rw [hhb] at t11
    cases hb with
    | true =>
      have HE := hide (show decide (st.hasL = true ∧ st.lim < (hn : Int)) = decide (st.lim < (hn : Int)) by rw [hhb]; simp)
      clear hhb
      go_wp2_with fail
      go_meet
      exact ⟨by rw [unhide HE], rfl⟩
    | false =>
      have HE := hide (show decide (st.hasL = true ∧ st.lim < (hn : Int)) = false by rw [hhb]; simp)
      clear hhb
      go_wp2_with fail
      go_meet
      exact ⟨by rw [unhide HE], rfl⟩
  case rest =>
  obtain ⟨rfl, rfl⟩ := hcut
  obtain ⟨bl, hbl⟩ : ∃ b, decide (st.hasL = true ∧ st.lim < (hn : Int)) = b := ⟨_, rfl⟩
  rw [hbl]
  have HBL := hide hbl
  clear hbl
  obtain ⟨N, hN⟩ : ∃ N, limN st hn = N := ⟨_, rfl⟩
  have HN := hide hN
  have hNle : N ≤ hn := by rw [← hN]; unfold limN; split <;> omega
  clear hN
  go_upto_if 35 with fail
  go_cut [8] from 36 to 39 (fun nv wx => nv = .int .i64 (N : Int) ∧ w2 = wx)
  case first =>
    cases bl with
    | true =>
      have h1 := of_decide_eq_true (unhide HBL)
      have hN : limN st hn = st.lim.toNat := by unfold limN; rw [if_pos h1]
      rw [unhide HN] at hN
      clear h1
      by_cases hneg : st.lim < 0
      · have b1 : decide (st.lim < 0) = true := decide_eq_true hneg
        have HE := hide (show N = 0 by omega)
        clear hN hneg
        go_wp2_with fail
        go_meet
        exact ⟨by rw [unhide HE]; rfl, rfl⟩
      · have b1 : decide (st.lim < 0) = false := decide_eq_false hneg
        have HE := hide (show (N : Int) = st.lim by omega)
        clear hN hneg
        go_wp2_with fail
        go_meet
        exact ⟨by rw [unhide HE], rfl⟩
    | false =>
      have h1 := of_decide_eq_false (unhide HBL)
      have HE := hide (show N = hn by rw [← unhide HN]; unfold limN; rw [if_neg h1])
      clear h1
      go_wp2_with fail
      go_meet
      exact ⟨by rw [unhide HE], rfl⟩
  case rest =>
  obtain ⟨rfl, rfl⟩ := hcut
  have G0 := Has.new w2 #[.int .i64 0, .int .i64 (N : Int), .slice a6 st.list.length c6, .slice none 0 0] 52
  have oG : Only (fun _ => False) w2 (w2.alloc (.cells #[.int .i64 0, .int .i64 (N : Int), .slice a6 st.list.length c6, .slice none 0 0] 52)) := (Only.refl _ _).alloc _
  have HA3 := hide (show PjI H #[.string tn, .slice ca cn cc, .int .i64 pk, .int .i64 ix] #[.int .i64 st.kind, .string st.table, .slice a2 n2 c2, .int .i64 st.pk, .slice a4 n4 c4, .bool st.star, .slice a6 st.list.length c6, .slice a7 n7 c7, .slice a8 n8 c8, .string st.order, .bool st.desc, .bool st.hasL, .int .i64 st.lim] (.slice ca cn cc) cols (w2.alloc (.cells #[.int .i64 0, .int .i64 (N : Int), .slice a6 st.list.length c6, .slice none 0 0] 52)) ∧ RL lo (.slice ha hn hc) Z' (w2.alloc (.cells #[.int .i64 0, .int .i64 (N : Int), .slice a6 st.list.length c6, .slice none 0 0] 52)) ∧ OwnN (w2.alloc (.cells #[.int .i64 0, .int .i64 (N : Int), .slice a6 st.list.length c6, .slice none 0 0] 52)) (.slice a6 st.list.length c6) st.list ∧ Only (fun b => (Value.slice ha hn hc).ownBlock = some b ∨ (Value.slice a6 st.list.length c6).ownBlock = some b) w (w2.alloc (.cells #[.int .i64 0, .int .i64 (N : Int), .slice a6 st.list.length c6, .slice none 0 0] 52)) ∧ Has (w2.alloc (.cells #[.int .i64 0, .int .i64 (N : Int), .slice a6 st.list.length c6, .slice none 0 0] 52)) w2.heap.size #[.int .i64 0, .int .i64 (N : Int), .slice a6 st.list.length c6, .slice none 0 0] 52 from ⟨(unhide HA2).1.quiet oG, (unhide HA2).2.1.quiet oG, ownsRow_keep (unhide HA2).2.2.1 oG (fun _ _ e => e), (unhide HA2).2.2.2.trans (oG.mono (fun _ _ e => e.elim)) (fun _ _ e => e), G0⟩)
  have hGH : H + 2 < w2.heap.size := (unhide HA2).1.rb.lt
  clear HA2 G0 oG t11 t12
  go_upto_region 11 with fail
  generalize w2.alloc (.cells #[.int .i64 0, .int .i64 (N : Int), .slice a6 st.list.length c6, .slice none 0 0] 52) = w3 at *
  generalize hG : w2.heap.size = G at *
  clear t6 tl hG
  have HGH := hide (show H + 2 < G from hGH)
  clear hGH
  go_loopw [10] (fun cv wr => ∃ c : Nat, cv = .int .i64 c ∧ c ≤ cols.length ∧ (st.star = false → c = 0) ∧ ∃ oa on oc, Has wr G #[.int .i64 0, .int .i64 (N : Int), .slice oa on oc, .slice none 0 0] 52 ∧ OwnN wr (.slice oa on oc) (st.list ++ (cols.take c).map (·.1)) ∧ (∀ b, (Value.slice oa on oc).ownBlock = some b → (Value.slice a6 st.list.length c6).ownBlock = some b ∨ H ≤ b) ∧ PjI H #[.string tn, .slice ca cn cc, .int .i64 pk, .int .i64 ix] #[.int .i64 st.kind, .string st.table, .slice a2 n2 c2, .int .i64 st.pk, .slice a4 n4 c4, .bool st.star, .slice a6 st.list.length c6, .slice a7 n7 c7, .slice a8 n8 c8, .string st.order, .bool st.desc, .bool st.hasL, .int .i64 st.lim] (.slice ca cn cc) cols wr ∧ RL lo (.slice ha hn hc) Z' wr ∧ Only (fun b => (Value.slice ha hn hc).ownBlock = some b ∨ (Value.slice a6 st.list.length c6).ownBlock = some b) w wr) (fun cv _ => cols.length + 1 - (intOf cv).toNat)
  case atStart => exact ⟨0, rfl, Nat.zero_le _, fun _ => rfl, a6, _, c6, (unhide HA3).2.2.2.2, by rw [List.take_zero, List.map_nil, List.append_nil]; exact (unhide HA3).2.2.1, fun b hb => .inl hb, (unhide HA3).1, (unhide HA3).2.1, (unhide HA3).2.2.2.1⟩
  case round =>
    obtain ⟨c, rfl, hcle, hst0, oa, on, oc, hG1, hN1, hB1, hP1, hR1, hO1⟩ := hrel
    clear HA3
    have t5 : wr.cell? ⟨H + 1, 5, none⟩ = some (.bool st.star) := hP1.sv.cell 5
    have tl := hP1.sv.lt
    have s1 : wr.cell? ⟨H, 1, none⟩ = some (.slice ca cn cc) := hP1.sc.cell 1
    have sl := hP1.sc.lt
    have hcn : cn = cols.length := by obtain ⟨_, _, e⟩ := hP1.oc.shape; cases e; rfl
    have HCN := hide hcn
    clear hcn
    by_cases hgo : st.star = true ∧ c < cols.length
    · have a1 : decide ((c : Int) < (cn : Int)) = true := decide_eq_true (by have := unhide HCN; omega)
      have a1p : (c : Int) < (cn : Int) := by have := unhide HCN; omega
      rw [hgo.1] at t5
      obtain ⟨x, hx⟩ := getE hgo.2
      obtain ⟨gc, ha1, e0, e1⟩ := hP1.oc.at_ hx
      rw [ha1] at s1
      have honl : on = (st.list ++ (cols.take c).map (·.1)).length := by obtain ⟨_, _, e⟩ := ownsRow_shape hN1; cases e; rfl
      have hon2 : on ≤ 300 := by rw [honl, List.length_append, List.length_map, List.length_take]; omega
      have y0 : wr.drew.cell? ⟨G, 2, none⟩ = some (.slice oa on oc) := ((Only.refl (fun _ => False) wr).drew).cellS (hG1.cell 2)
      have Gl2 : G < wr.heap.size := hG1.lt
      have y00 : wr.cell? ⟨G, 2, none⟩ = some (.slice oa on oc) := hG1.cell 2
      have Gl : G < wr.drew.heap.size := Nat.lt_of_lt_of_le hG1.lt ((Only.refl (fun _ => False) wr).drew).size
      have own1 : wr.drew.ownsRow 0 9 1 (.slice oa on oc) on ((st.list ++ (cols.take c).map (·.1)).map Value.string) := by have h := ownsRow_keep hN1 ((Only.refl (fun _ => False) wr).drew) (fun _ _ e => e); rw [← honl] at h; exact h
      have neG : ∀ b, (Value.slice oa on oc).ownBlock = some b → b ≠ G := fun b hb => ownsRow_ne hN1 hG1 (by decide) b hb
      have HSB := hide (show ∀ W, Only (fun b => (Value.slice oa on oc).ownBlock = some b ∨ b = G) wr W → (W.cell? ⟨H, 1, none⟩ = some (.slice (some ⟨gc, 0, none⟩) cn cc) ∧ W.cell? ⟨gc, c * 2, none⟩ = some (.string x.1)) from fun W o => ⟨cell_keep s1 o (fun h => h.elim (fun h => hP1.apE hN1 (by decide) (by decide) (by decide) (by decide) H (.inl rfl) h) (fun (h : H = G) => by have := unhide HGH; omega)), cell_keep e0 o (fun h => h.elim (fun h => hP1.apE hN1 (by decide) (by decide) (by decide) (by decide) gc (.inr (.inr (.inr (by rw [ha1]; rfl)))) h) (fun (h : gc = G) => by obtain ⟨c0, hc0⟩ := ownsRow_has hP1.oc (k := gc) (by rw [ha1]; rfl); exact Has.ne hc0 hG1 (by decide) h))⟩)
      have HPP := hide (show ∀ (gg cap3 : Nat) (w5 : World), w5.ownsRow 0 9 1 (.slice (some ⟨gg, 0, none⟩) (on + 1) cap3) (on + 1) ((st.list ++ (cols.take c).map (·.1)).map Value.string ++ [.string x.1]) → (wr.drew.alloc (.cells #[.string x.1] 9)).grownBy w5 (Value.slice oa on oc).ownBlock → ((Value.slice oa on oc).ownBlock = some gg ∨ gg = wr.drew.heap.size + 1) → ∃ oa' on' oc', Has (w5.setCell ⟨G, 2, none⟩ (.slice (some ⟨gg, 0, none⟩) (on + 1) cap3)) G #[.int .i64 0, .int .i64 (N : Int), .slice oa' on' oc', .slice none 0 0] 52 ∧ OwnN (w5.setCell ⟨G, 2, none⟩ (.slice (some ⟨gg, 0, none⟩) (on + 1) cap3)) (.slice oa' on' oc') (st.list ++ (cols.take (c + 1)).map (·.1)) ∧ (∀ b, (Value.slice oa' on' oc').ownBlock = some b → (Value.slice a6 st.list.length c6).ownBlock = some b ∨ H ≤ b) ∧ PjI H #[.string tn, .slice ca cn cc, .int .i64 pk, .int .i64 ix] #[.int .i64 st.kind, .string st.table, .slice a2 n2 c2, .int .i64 st.pk, .slice a4 n4 c4, .bool st.star, .slice a6 st.list.length c6, .slice a7 n7 c7, .slice a8 n8 c8, .string st.order, .bool st.desc, .bool st.hasL, .int .i64 st.lim] (.slice ca cn cc) cols (w5.setCell ⟨G, 2, none⟩ (.slice (some ⟨gg, 0, none⟩) (on + 1) cap3)) ∧ RL lo (.slice ha hn hc) Z' (w5.setCell ⟨G, 2, none⟩ (.slice (some ⟨gg, 0, none⟩) (on + 1) cap3)) ∧ Only (fun b => (Value.slice ha hn hc).ownBlock = some b ∨ (Value.slice a6 st.list.length c6).ownBlock = some b) w (w5.setCell ⟨G, 2, none⟩ (.slice (some ⟨gg, 0, none⟩) (on + 1) cap3)) from by
        intro gg cap3 w5 h1 h2 h3
        have oD : Only (fun b => (Value.slice oa on oc).ownBlock = some b) wr w5 := (((Only.refl (fun b => (Value.slice oa on oc).ownBlock = some b) wr).drew).alloc _).grown h2 (fun b hb _ => hb)
        have oS : Only (fun b => b = G) w5 (w5.setCell ⟨G, 2, none⟩ (.slice (some ⟨gg, 0, none⟩) (on + 1) cap3)) := only1 _ _
        have hG5 := hG1.keep oD (fun h => neG G h rfl)
        have zD : wr.drew.heap.size = wr.heap.size := rfl
        have hGl := hG1.lt
        have ggne : gg ≠ G := h3.elim (fun h => neG gg h) (fun h => by omega)
        refine ⟨some ⟨gg, 0, none⟩, on + 1, cap3, hG5.setCell 2 _, ?_, ?_, ?_, ?_, ?_⟩
        · have e : (st.list ++ (cols.take (c + 1)).map (·.1)) = (st.list ++ (cols.take c).map (·.1)) ++ [x.1] := by rw [List.take_add_one, hx]; simp
          rw [e]
          unfold OwnN
          rw [List.length_append, ← honl, List.map_append]
          exact ownsRow_keep h1 oS (fun b hb (e : b = G) => ggne (by simp [Value.ownBlock] at hb; omega))
        · intro b hb
          have hb' : gg = b := by simpa [Value.ownBlock] using hb
          subst hb'
          rcases h3 with h | h
          · exact hB1 gg h
          · have := unhide HGH; right; omega
        · refine (hP1.keep oD (hP1.apE hN1 (by decide) (by decide) (by decide) (by decide))).keep oS (fun b hb (e : b = G) => ?_)
          subst e
          have hgh := unhide HGH
          rcases hb with h | h | h | h
          · omega
          · omega
          · omega
          · obtain ⟨c0, hc0⟩ := ownsRow_has hP1.oc h
            exact Has.ne hc0 hG1 (by decide) rfl
        · have hf : ∀ {Bx : Nat → Prop} {wa wb : World}, RL lo (.slice ha hn hc) Z' wa → Only Bx wa wb → (∀ b, (Value.slice ha hn hc).ownBlock = some b → ¬ Bx b) → (∀ z ∈ Z', ∀ b, z.1.ownBlock = some b → ¬ Bx b) → RL lo (.slice ha hn hc) Z' wb := fun h o k1 k2 => ⟨ownsRow_keep h.own o k1, fun z hz => ⟨(h.row z hz).1.keep o (k2 z hz), (h.row z hz).2⟩, h.nb, h.ap⟩
          refine hf (hf hR1 oD (fun b hb h => ?_) (fun z hz b hb h => ?_)) oS (fun b hb (h : b = G) => ?_) (fun z hz b hb (h : b = G) => ?_)
          · obtain ⟨c0, hc0⟩ := ownsRow_has hR1.own hb
            exact ownsRow_ne hN1 hc0 (by decide) b h rfl
          · obtain ⟨c0, hc0⟩ := ownsRow_has (hR1.row z hz).1 hb
            exact ownsRow_ne hN1 hc0 (by decide) b h rfl
          · exact ownsRow_ne hR1.own hG1 (by decide) b hb h
          · exact ownsRow_ne (hR1.row z hz).1 hG1 (by decide) b hb h
        · exact (hO1.trans (oD.mono (T := fun b => ((Value.slice ha hn hc).ownBlock = some b ∨ (Value.slice a6 st.list.length c6).ownBlock = some b) ∨ H ≤ b) (fun b _ h => (hB1 b h).elim (fun c => .inl (.inr c)) .inr) |>.trans (oS.mono (T := fun b => ((Value.slice ha hn hc).ownBlock = some b ∨ (Value.slice a6 st.list.length c6).ownBlock = some b) ∨ H ≤ b) (fun b _ (h : b = G) => .inr (by have := unhide HGH; omega))) (fun _ _ e => e)) (fun b hl h => h.elim id (fun h => by omega)) : Only _ _ _))
      have y0f : wr.drew.frozen? ⟨G, 2, none⟩ = false := (hG1.keep ((Only.refl (fun _ => False) wr).drew) (fun e => e)).free 2
      have hsb0 := unhide HSB wr (Only.refl _ _)
      have Hc1 := hide (show c + 1 ≤ cols.length from hgo.2)
      have Hst := hide hgo.1
      have own1 := own1
      clear hP1 hR1 hO1 hB1 hN1 hG1 honl hx e0 e1 hst0 hcle
      have HNG := hide neG
      clear neG
      go_upto_region 13 with fail
      refine wp_region_held_drew (S := (fun w' => w'.cell? ⟨H, 1, none⟩ = some (.slice (some ⟨gc, 0, none⟩) cn cc) ∧ w'.cell? ⟨gc, c * 2, none⟩ = some (.string x.1))) (by kernel_rfl) hsb0 (fun hH0 => ?_)
      refine takeH 0 55 (v := ?vpa1) rfl rfl (by kernel_rfl) (by kernel_rfl) (by kernel_rfl) (fun _ _ _ h => h) (Or.inl ⟨by rfl, ?hpa1⟩) hH0 ?rpa1
      case hpa1 => (intro w hSw; clear hSw; go_simp; (try with_reducible rfl))
      case rpa1 =>
      try simp only [Act.put, List.setIfInBounds_toArray, List.set_cons_zero, List.set_cons_succ]
      refine takeH 2 57 (v := ?vpa2) rfl rfl (by kernel_rfl) (by kernel_rfl) (by kernel_rfl) (fun _ _ _ h => h) (Or.inl ⟨by rfl, ?hpa2⟩) hH0 ?rpa2
      case hpa2 => (intro w hSw; clear hSw; go_simp; (try with_reducible rfl))
      case rpa2 =>
      try simp only [Act.put, List.setIfInBounds_toArray, List.set_cons_zero, List.set_cons_succ]
      refine takeH 3 58 (v := ?vpa3) rfl rfl (by kernel_rfl) (by kernel_rfl) (by kernel_rfl) (fun _ _ _ h => h) (Or.inl ⟨by rfl, ?hpa3⟩) hH0 ?rpa3
      case hpa3 => (intro w hSw; obtain ⟨s0, s1⟩ := hSw; go_simp; (try with_reducible rfl))
      case rpa3 =>
      try simp only [Act.put, List.setIfInBounds_toArray, List.set_cons_zero, List.set_cons_succ]
      refine takeH 4 59 (v := ?vpa4) rfl rfl (by kernel_rfl) (by kernel_rfl) (by kernel_rfl) (fun _ _ _ h => h) (Or.inl ⟨by rfl, ?hpa4⟩) hH0 ?rpa4
      case hpa4 => (intro w hSw; clear hSw; go_simp; (try with_reducible rfl))
      case rpa4 =>
      try simp only [Act.put, List.setIfInBounds_toArray, List.set_cons_zero, List.set_cons_succ]
      refine takeH 5 60 (v := ?vpa5) rfl rfl (by kernel_rfl) (by kernel_rfl) (by kernel_rfl) (fun _ _ _ h => h) (Or.inl ⟨by rfl, ?hpa5⟩) hH0 ?rpa5
      case hpa5 => (intro w hSw; clear hSw; go_simp; (try with_reducible rfl))
      case rpa5 =>
      try simp only [Act.put, List.setIfInBounds_toArray, List.set_cons_zero, List.set_cons_succ]
      refine takeH 6 61 (v := ?vpa6) rfl rfl (by kernel_rfl) (by kernel_rfl) (by kernel_rfl) (fun _ _ _ h => h) (Or.inl ⟨by rfl, ?hpa6⟩) hH0 ?rpa6
      case hpa6 => (intro w hSw; clear hSw; go_simp; (try with_reducible rfl))
      case rpa6 =>
      try simp only [Act.put, List.setIfInBounds_toArray, List.set_cons_zero, List.set_cons_succ]
      refine takeH 7 62 (v := ?vpa7) rfl rfl (by kernel_rfl) (by kernel_rfl) (by kernel_rfl) (fun _ _ _ h => h) (Or.inl ⟨by rfl, ?hpa7⟩) hH0 ?rpa7
      case hpa7 => (intro w hSw; obtain ⟨s0, s1⟩ := hSw; go_simp; (try with_reducible rfl))
      case rpa7 =>
      try simp only [Act.put, List.setIfInBounds_toArray, List.set_cons_zero, List.set_cons_succ]
      refine spairH 1 8 (by kernel_rfl) rfl rfl 56 63 rfl rfl rfl rfl (v := .slice oa on oc) (w1 := wr.drew) (u := .slice (some ⟨wr.drew.heap.size, 0, none⟩) 1 1) (w2 := (wr.drew.alloc (.cells #[.string x.1] 9))) ?e1pr1 ?e2pr1 ?k1pr1 ?k2pr1
      case e1pr1 => (go_simp; (try with_reducible rfl))
      case e2pr1 => (go_simp; (try with_reducible rfl))
      case k1pr1 =>
        refine ⟨unhide HSB _ ((Only.refl (fun b => (Value.slice oa on oc).ownBlock = some b ∨ b = G) wr).drew), ?_⟩
        try simp only [Act.put, List.setIfInBounds_toArray, List.set_cons_zero, List.set_cons_succ]
        refine soneH 8 (by kernel_rfl) rfl 63 rfl rfl (v := .slice (some ⟨wr.drew.heap.size, 0, none⟩) 1 1) (w1 := (wr.drew.alloc (.cells #[.string x.1] 9))) ?bd2 ?kbd2
        case bd2 => (go_simp; (try with_reducible rfl))
        case kbd2 =>
        refine ⟨unhide HSB _ (((Only.refl (fun b => (Value.slice oa on oc).ownBlock = some b ∨ b = G) wr).drew).alloc (.cells #[.string x.1] 9)), ?_⟩
        try simp only [Act.put, List.setIfInBounds_toArray, List.set_cons_zero, List.set_cons_succ]
        have oAl : Only (fun _ => False) wr.drew (wr.drew.alloc (.cells #[.string x.1] 9)) := (Only.refl _ _).alloc _
        have y1 := oAl.cellS y0
        have y1f : (wr.drew.alloc (.cells #[.string x.1] 9)).frozen? ⟨G, 2, none⟩ = false := oAl.frS y0f (fun e => e) Gl
        refine sappH 9 (by kernel_rfl) rfl 64 rfl rfl _ _ _ rfl 0 9 j0 _ 1 16 Tryz.underlying49 hj0 hy0 hy1 hy2 rfl (by omega) (.slice oa on oc) on ((st.list ++ (cols.take c).map (·.1)).map Value.string) rfl (own1.alloc _) ⟨wr.drew.heap.size, 0, none⟩ 1 1 [.string x.1] rfl rfl (World.news_of_block (cs := #[.string x.1]) (t := 9) (fr := (0, 0)) (heap_alloc_new wr.drew _)) (by simp [Value.oneCell']) (by omega) (by unfold maxLen; omega) (by omega) (by simp) (wr.drew.heap.size + 1) (by simp) ?ap3
        case ap3 =>
        intro gg cap3 w5 hown1 hgrow hat hlt3
        have y3 := (hgrow.cell_far ⟨G, 2, none⟩ (by simp; omega) (fun c => unhide HNG G c.symm rfl)).trans y1
        have yz := (hgrow.frozen_far ⟨G, 2, none⟩ (by simp; omega) (fun c => unhide HNG G c.symm rfl)).trans y1f
        have o5 : Only (fun b => (Value.slice oa on oc).ownBlock = some b ∨ b = G) wr w5 := (((Only.refl (fun b => (Value.slice oa on oc).ownBlock = some b ∨ b = G) wr).drew).alloc (.cells #[.string x.1] 9)).grown hgrow (fun b hb _ => .inl hb)
        have HQ := hide (unhide HPP gg cap3 w5 hown1 hgrow hat)
        have s5 := unhide HSB _ o5
        refine ⟨s5, ?_⟩
        try simp only [Act.put, List.setIfInBounds_toArray, List.set_cons_zero, List.set_cons_succ]
        refine takeH 10 65 (v := ?vpa8) rfl rfl (by kernel_rfl) (by kernel_rfl) (by kernel_rfl) (fun _ _ _ h => h) (Or.inl ⟨by rfl, ?hpa8⟩) s5 ?rpa8
        case hpa8 => (intro w hSw; clear hSw; go_simp; (try with_reducible rfl))
        case rpa8 =>
        try simp only [Act.put, List.setIfInBounds_toArray, List.set_cons_zero, List.set_cons_succ]
        refine storeH_cell 11 (by kernel_rfl) rfl rfl rfl 49 _ _ rfl ⟨G, 2, none⟩ (.slice (some ⟨gg, 0, none⟩) (on + 1) cap3) rfl rfl (run_store_list y3 yz _ _ _) (unhide HSB _ (o5.trans (only1 _ _) (fun b _ e => .inr e))) ?_
        try simp only [Act.put, List.setIfInBounds_toArray, List.set_cons_zero, List.set_cons_succ]
        refine wpAnyH_done (by kernel_rfl) ?_ _
        clear hown1 hgrow hat y3 yz o5 s5
        go_wp2_with fail
        go_roundw
        case rel => exact ⟨c + 1, by go_num, unhide Hc1, (fun h => by rw [unhide Hst] at h; cases h), unhide HQ⟩
        case measure => have := unhide Hc1; simp [intOf]; omega
      case k2pr1 =>
        refine ⟨unhide HSB _ (((Only.refl (fun b => (Value.slice oa on oc).ownBlock = some b ∨ b = G) wr).drew).alloc (.cells #[.string x.1] 9)), ?_⟩
        try simp only [Act.put, List.setIfInBounds_toArray, List.set_cons_zero, List.set_cons_succ]
        refine soneH 1 (by kernel_rfl) rfl 56 rfl rfl (v := .slice oa on oc) (w1 := (wr.drew.alloc (.cells #[.string x.1] 9))) ?ld4 ?kld4
        case ld4 => (go_simp; (try with_reducible rfl))
        case kld4 =>
        refine ⟨unhide HSB _ (((Only.refl (fun b => (Value.slice oa on oc).ownBlock = some b ∨ b = G) wr).drew).alloc (.cells #[.string x.1] 9)), ?_⟩
        try simp only [Act.put, List.setIfInBounds_toArray, List.set_cons_zero, List.set_cons_succ]
        have oAl : Only (fun _ => False) wr.drew (wr.drew.alloc (.cells #[.string x.1] 9)) := (Only.refl _ _).alloc _
        have y1 := oAl.cellS y0
        have y1f : (wr.drew.alloc (.cells #[.string x.1] 9)).frozen? ⟨G, 2, none⟩ = false := oAl.frS y0f (fun e => e) Gl
        refine sappH 9 (by kernel_rfl) rfl 64 rfl rfl _ _ _ rfl 0 9 j0 _ 1 16 Tryz.underlying49 hj0 hy0 hy1 hy2 rfl (by omega) (.slice oa on oc) on ((st.list ++ (cols.take c).map (·.1)).map Value.string) rfl (own1.alloc _) ⟨wr.drew.heap.size, 0, none⟩ 1 1 [.string x.1] rfl rfl (World.news_of_block (cs := #[.string x.1]) (t := 9) (fr := (0, 0)) (heap_alloc_new wr.drew _)) (by simp [Value.oneCell']) (by omega) (by unfold maxLen; omega) (by omega) (by simp) (wr.drew.heap.size + 1) (by simp) ?ap5
        case ap5 =>
        intro gg cap3 w5 hown1 hgrow hat hlt3
        have y3 := (hgrow.cell_far ⟨G, 2, none⟩ (by simp; omega) (fun c => unhide HNG G c.symm rfl)).trans y1
        have yz := (hgrow.frozen_far ⟨G, 2, none⟩ (by simp; omega) (fun c => unhide HNG G c.symm rfl)).trans y1f
        have o5 : Only (fun b => (Value.slice oa on oc).ownBlock = some b ∨ b = G) wr w5 := (((Only.refl (fun b => (Value.slice oa on oc).ownBlock = some b ∨ b = G) wr).drew).alloc (.cells #[.string x.1] 9)).grown hgrow (fun b hb _ => .inl hb)
        have HQ := hide (unhide HPP gg cap3 w5 hown1 hgrow hat)
        have s5 := unhide HSB _ o5
        refine ⟨s5, ?_⟩
        try simp only [Act.put, List.setIfInBounds_toArray, List.set_cons_zero, List.set_cons_succ]
        refine takeH 10 65 (v := ?vpa9) rfl rfl (by kernel_rfl) (by kernel_rfl) (by kernel_rfl) (fun _ _ _ h => h) (Or.inl ⟨by rfl, ?hpa9⟩) s5 ?rpa9
        case hpa9 => (intro w hSw; clear hSw; go_simp; (try with_reducible rfl))
        case rpa9 =>
        try simp only [Act.put, List.setIfInBounds_toArray, List.set_cons_zero, List.set_cons_succ]
        refine storeH_cell 11 (by kernel_rfl) rfl rfl rfl 49 _ _ rfl ⟨G, 2, none⟩ (.slice (some ⟨gg, 0, none⟩) (on + 1) cap3) rfl rfl (run_store_list y3 yz _ _ _) (unhide HSB _ (o5.trans (only1 _ _) (fun b _ e => .inr e))) ?_
        try simp only [Act.put, List.setIfInBounds_toArray, List.set_cons_zero, List.set_cons_succ]
        refine wpAnyH_done (by kernel_rfl) ?_ _
        clear hown1 hgrow hat y3 yz o5 s5
        go_wp2_with fail
        go_roundw
        case rel => exact ⟨c + 1, by go_num, unhide Hc1, (fun h => by rw [unhide Hst] at h; cases h), unhide HQ⟩
        case measure => have := unhide Hc1; simp [intOf]; omega
    · skip
      have hnames : st.list ++ (cols.take c).map (·.1) = colsD cols st := by
        unfold colsD
        by_cases hs : st.star = true
        · rw [if_pos hs]
          have : ¬ c < cols.length := fun h => hgo ⟨hs, h⟩
          rw [List.take_of_length_le (by omega)]
        · rw [if_neg hs, hst0 (by simpa using hs)]
          simp
      rw [hnames] at hN1
      go_upto_region 11 with fail
      go_cut [52] from 44 to 51 (fun bv wx => bv = .bool false ∧ wr = wx)
      case first =>
        obtain ⟨sb, hsb⟩ : ∃ b, st.star = b := ⟨_, rfl⟩
        rw [hsb] at t5 hgo
        clear hsb hst0 hnames
        cases sb with
        | true =>
          have a1 : decide ((c : Int) < (cn : Int)) = false := decide_eq_false (fun h => hgo ⟨rfl, by have := unhide HCN; omega⟩)
          have a1p : ¬ (c : Int) < (cn : Int) := fun h => hgo ⟨rfl, by have := unhide HCN; omega⟩
          clear hgo
          go_wp2_with fail
          go_meet
          exact ⟨rfl, rfl⟩
        | false =>
          clear hgo
          go_wp2_with fail
          go_meet
          exact ⟨rfl, rfl⟩
      case rest =>
      obtain ⟨rfl, rfl⟩ := hcut
      obtain ⟨nl, hnl⟩ : ∃ l, colsD cols st = l := ⟨_, rfl⟩
      rw [hnl] at hN1
      have hin := colsD_in (cols := cols) (st := st) (unhide HP).2.2.1
      rw [hnl] at hin
      obtain ⟨nn, hnn⟩ : ∃ n, nl.length = n := ⟨_, rfl⟩
      have hone : on = nn := by obtain ⟨_, _, e⟩ := ownsRow_shape hN1; cases e; exact hnn
      subst hone
      have hon3 : on ≤ 300 := by
        rw [← hnn, ← hnl]
        unfold colsD
        split
        · rw [List.length_append, List.length_map]; omega
        · omega
      have HNL := hide (And.intro hnl (And.intro hin hnn))
      have HB1 := hide hB1
      have H4 := hide (show Has wr G #[.int .i64 0, .int .i64 (N : Int), .slice oa on oc, .slice none 0 0] 52 ∧ OwnN wr (.slice oa on oc) nl ∧ PjI H #[.string tn, .slice ca cn cc, .int .i64 pk, .int .i64 ix] #[.int .i64 st.kind, .string st.table, .slice a2 n2 c2, .int .i64 st.pk, .slice a4 n4 c4, .bool st.star, .slice a6 st.list.length c6, .slice a7 n7 c7, .slice a8 n8 c8, .string st.order, .bool st.desc, .bool st.hasL, .int .i64 st.lim] (.slice ca cn cc) cols wr ∧ RL lo (.slice ha hn hc) Z' wr ∧ Only (fun b => (Value.slice ha hn hc).ownBlock = some b ∨ (Value.slice a6 st.list.length c6).ownBlock = some b) w wr from ⟨hG1, hN1, hP1, hR1, hO1⟩)
      clear hnl hin hnn hG1 hN1 hP1 hR1 hO1 hB1 t5 tl s1 sl hgo hst0 hnames hcle
      generalize hwr : wr = w4 at *
      clear hwr
      go_upto_region 15 with fail
      go_loopw [11, 12, 13] (fun iv _ _ wr => ∃ (i : Nat) (ra : Option Addr) (rn rc : Nat) (Y : List (Value × List Vl)), iv = .int .i64 i ∧ i ≤ N ∧ Has wr G #[.int .i64 0, .int .i64 (N : Int), .slice oa on oc, .slice ra rn rc] 52 ∧ RL H (.slice ra rn rc) Y wr ∧ Y.map (·.2) = ((Z'.map (·.2)).take i).map (prjR cols nl) ∧ OwnN wr (.slice oa on oc) nl ∧ PjI H #[.string tn, .slice ca cn cc, .int .i64 pk, .int .i64 ix] #[.int .i64 st.kind, .string st.table, .slice a2 n2 c2, .int .i64 st.pk, .slice a4 n4 c4, .bool st.star, .slice a6 st.list.length c6, .slice a7 n7 c7, .slice a8 n8 c8, .string st.order, .bool st.desc, .bool st.hasL, .int .i64 st.lim] (.slice ca cn cc) cols wr ∧ RL lo (.slice ha hn hc) Z' wr ∧ Only (fun b => (Value.slice ha hn hc).ownBlock = some b ∨ (Value.slice a6 st.list.length c6).ownBlock = some b) w wr) (fun iv _ _ _ => N + 1 - (intOf iv).toNat)
      case atStart => exact ⟨0, none, 0, 0, [], rfl, Nat.zero_le _, (unhide H4).1, RL.nil _ _, rfl, (unhide H4).2.1, (unhide H4).2.2.1, (unhide H4).2.2.2.1, (unhide H4).2.2.2.2⟩
      case round =>
        obtain ⟨i, ra, rn, rc, Y, rfl, hi, hG1, hY, hYm, hN1, hP1, hR1, hO1⟩ := hrel
        clear H4
        have hrnY : rn = Y.length := by obtain ⟨_, _, e⟩ := ownsRow_shape hY.own; cases e; rfl
        have hYl : Y.length ≤ 8 := by
          have e := congrArg List.length hYm
          rw [List.length_map, List.length_map, List.length_take] at e
          omega
        have g2 : wr.cell? ⟨G, 2, none⟩ = some (.slice oa on oc) := hG1.cell 2
        have gl := hG1.lt
        by_cases hiN : i < N
        · have a1 : decide ((i : Int) < (N : Int)) = true := decide_eq_true (by omega)
          have a1p : (i : Int) < (N : Int) := by omega
          obtain ⟨z, hz⟩ := getE (l := Z') (i := i) (by rw [(unhide HZ).1]; omega)
          have hzm := List.mem_of_getElem? hz
          obtain ⟨cur0, hcs, hmk⟩ := run_make_vals wr on (by omega)
          obtain ⟨pr, hpr⟩ : ∃ r, prjR cols nl z.2 = r := ⟨_, rfl⟩
          have hprl : pr.length = on := by rw [← hpr]; unfold prjR; rw [List.length_map]; exact (unhide HNL).2.2
          have oM : Only (fun _ => False) wr (wr.alloc (.cells cur0 152)) := (Only.refl _ _).alloc _
          have N0 : RwI wr pr wr.heap.size 0 (wr.alloc (.cells cur0 152)) := ⟨⟨cur0, by rw [hcs, hprl], Has.new _ _ _, fun j hj => by omega⟩, oM⟩
          have H5 := hide N0
          have HW := hide (show Has wr G #[.int .i64 0, .int .i64 (N : Int), .slice oa on oc, .slice ra rn rc] 52 ∧ RL H (.slice ra rn rc) Y wr ∧ Y.map (·.2) = ((Z'.map (·.2)).take i).map (prjR cols nl) ∧ OwnN wr (.slice oa on oc) nl ∧ PjI H #[.string tn, .slice ca cn cc, .int .i64 pk, .int .i64 ix] #[.int .i64 st.kind, .string st.table, .slice a2 n2 c2, .int .i64 st.pk, .slice a4 n4 c4, .bool st.star, .slice a6 st.list.length c6, .slice a7 n7 c7, .slice a8 n8 c8, .string st.order, .bool st.desc, .bool st.hasL, .int .i64 st.lim] (.slice ca cn cc) cols wr ∧ RL lo (.slice ha hn hc) Z' wr ∧ Only (fun b => (Value.slice ha hn hc).ownBlock = some b ∨ (Value.slice a6 st.list.length c6).ownBlock = some b) w wr from ⟨hG1, hY, hYm, hN1, hP1, hR1, hO1⟩)
          have HZI := hide (And.intro hz (And.intro hpr (And.intro hprl (And.intro hrnY hYl))))
          clear hG1 hY hYm hN1 hP1 hR1 hO1 N0 oM hcs hpr hprl hz hrnY hYl
          go_upto_region 19 with fail
          obtain ⟨wo, rfl⟩ : ∃ wo : World, wo = wr := ⟨_, rfl⟩
          generalize wo.alloc (.cells cur0 152) = w5 at *
          generalize hg : wo.heap.size = gr at *
          clear hmk g2 gl
          go_loopw [13] (fun jv wq => ∃ j : Nat, jv = .int .i64 j ∧ j ≤ on ∧ RwI wo pr gr j wq) (fun jv _ => on + 1 - (intOf jv).toNat)
          case atStart => exact ⟨0, rfl, Nat.zero_le _, unhide H5⟩
          case round =>
            obtain ⟨j, rfl, hjn, hW⟩ := hrel
            clear H5
            have G2 := (unhide HW).1.keep hW.on (fun e => e)
            have g2 : wr.cell? ⟨G, 2, none⟩ = some (.slice oa on oc) := G2.cell 2
            have gl := G2.lt
            by_cases hj : j < on
            · have b1 : decide ((j : Int) < (on : Int)) = true := decide_eq_true (by omega)
              have b1p : (j : Int) < (on : Int) := by omega
              obtain ⟨x, hx⟩ := getE (l := nl) (i := j) (by rw [(unhide HNL).2.2]; exact hj)
              have hN2 := ownsRow_keep (unhide HW).2.2.2.1 hW.on (fun _ _ e => e)
              obtain ⟨no, hoa, x0⟩ := strs_at hN2 hx
              have hq0 := (unhide HNL).2.1 x (List.mem_of_getElem? hx)
              have hqr := qcol_rng cols x
              obtain ⟨m, hm⟩ : ∃ m : Nat, qcol cols x = (m : Int) := ⟨(qcol cols x).toNat, by omega⟩
              have hR2 := (unhide HW).2.2.2.2.2.1.quiet hW.on
              have hzz := (unhide HZI).1
              have hzm := List.mem_of_getElem? hzz
              have hzl := (unhide HZ).2.1 z hzm
              obtain ⟨y, hy⟩ := getE (l := z.2) (i := m) (by omega)
              have O1 := (hR2.row z hzm).1
              obtain ⟨za, zc, hzs⟩ := O1.shape
              obtain ⟨zn, hzn⟩ : ∃ n, z.2.length = n := ⟨_, rfl⟩
              rw [hzn] at hzs
              rw [hzs] at O1
              obtain ⟨zg, hza, v0, v1, v2⟩ := O1.at_ hy
              subst hza
              have own2 := hR2.own
              obtain ⟨hg2, hha⟩ : ∃ rg, ha = some ⟨rg, 0, none⟩ := by
                  rcases own2.2 with ⟨he, h0⟩ | ⟨g', cap', cur, he, _⟩
                  · have := (List.getElem?_eq_some_iff.mp hzz).1; omega
                  · have := he
                    simp at this
                    exact ⟨g', this.1⟩
              have hcx : wr.cell? ⟨hg2, i, none⟩ = some (.slice (some ⟨zg, 0, none⟩) zn zc) := by
                  have hc0 := World.ownsRow.cells own2 (g := hg2) (by rw [hha]; rfl) i z.1 (by rw [List.getElem?_map, hzz]; rfl)
                  rw [addr_add, hzs] at hc0
                  simpa using hc0
              have hP2 := (unhide HW).2.2.2.2.1.quiet hW.on
              have s0 : wr.cell? ⟨H, 0, none⟩ = some (.string tn) := hP2.sc.cell 0
              have s1 : wr.cell? ⟨H, 1, none⟩ = some (.slice ca cn cc) := hP2.sc.cell 1
              have s2 : wr.cell? ⟨H, 2, none⟩ = some (.int .i64 pk) := hP2.sc.cell 2
              have s3 : wr.cell? ⟨H, 3, none⟩ = some (.int .i64 ix) := hP2.sc.cell 3
              have oD : Only (fun _ => False) wr wr.drew := (Only.refl _ wr).drew
              have C1 := sqcolOf_any (tn := tn) (pk := pk) (ix := ix) (hP2.oc.keep oD (fun _ _ e => e)) (by omega) x
              unfold schU at C1
              rw [hm] at C1
              have C1 := hide C1
              have hmz : (m : Int) < (zn : Int) := by omega
              have hin2 : (i : Int) < (hn : Int) := by omega
              have hyy : pr[j]? = some y := by
                  rw [← (unhide HZI).2.1]
                  unfold prjR
                  rw [List.getElem?_map, hx]
                  show some (rAt z.2 (qcol cols x)) = some y
                  rw [hm, rAt_ky]
                  unfold kyR
                  rw [hy]
                  rfl
              have ngr : ∀ b, b < gr → b ≠ gr := fun b h => by omega
              have hlt : ∀ b {o : Nat} {v : Value}, wo.cell? ⟨b, o, none⟩ = some v → b < gr := fun b o v h => by rw [← hg]; exact cell_lt h
              have HWj := hide hW
              have HYY := hide hyy
              rw [hoa] at g2
              rw [hha]
              have hltq : ∀ b, b < gr → ∀ {W : World} {o : Nat} {v : Value}, Only (fun k => k = gr) wr W → wr.cell? ⟨b, o, none⟩ = some v → W.cell? ⟨b, o, none⟩ = some v := fun b hb W o v ho h => cell_keep h ho (fun (e : b = gr) => by omega)
              have bG : G < gr := by have := (unhide HW).1.lt; omega
              have bH : H < gr := by have := (unhide HW).2.2.2.2.1.sc.lt; omega
              have bno : no < gr := by have := ownsRow_lt (unhide HW).2.2.2.1 no (by rw [hoa]; rfl); omega
              have bhg : hg2 < gr := by have := ownsRow_lt (unhide HW).2.2.2.2.2.1.own hg2 (by rw [hha]; rfl); omega
              have bzg : zg < gr := by have h := ownsRow_lt ((unhide HW).2.2.2.2.2.1.row z hzm).1 zg (by rw [hzs]; rfl); omega
              have HSB := hide (show ∀ W, Only (fun k => k = gr) wr W → (W.cell? ⟨hg2, i, none⟩ = some (.slice (some ⟨zg, 0, none⟩) zn zc) ∧ W.cell? ⟨H, 0, none⟩ = some (.string tn) ∧ W.cell? ⟨H, 1, none⟩ = some (.slice ca cn cc) ∧ W.cell? ⟨H, 2, none⟩ = some (.int .i64 pk) ∧ W.cell? ⟨H, 3, none⟩ = some (.int .i64 ix) ∧ W.cell? ⟨G, 2, none⟩ = some (.slice (some ⟨no, 0, none⟩) on oc) ∧ W.cell? ⟨no, j, none⟩ = some (.string x) ∧ W.cell? ⟨zg, m * 3, none⟩ = some (.bool y.str) ∧ W.cell? ⟨zg, m * 3 + 1, none⟩ = some (.int .i64 y.i) ∧ W.cell? ⟨zg, m * 3 + 2, none⟩ = some (.string y.s)) from fun W o => ⟨hltq hg2 bhg o hcx, hltq H bH o s0, hltq H bH o s1, hltq H bH o s2, hltq H bH o s3, hltq G bG o g2, hltq no bno o x0, hltq zg bzg o v0, hltq zg bzg o v1, hltq zg bzg o v2⟩)
              clear hltq ngr hlt bG bH bno bhg bzg hP2 hR2 O1 own2 hq0 hqr hx hm hy hzl hN2 hyy hzz hzm hzs hzn hha hoa G2 hW
              have hsb0 := unhide HSB wr (Only.refl _ _)
              go_upto_region 21 with fail
              refine wp_region_held_drew (S := (fun w' => w'.cell? ⟨hg2, i, none⟩ = some (.slice (some ⟨zg, 0, none⟩) zn zc) ∧ w'.cell? ⟨H, 0, none⟩ = some (.string tn) ∧ w'.cell? ⟨H, 1, none⟩ = some (.slice ca cn cc) ∧ w'.cell? ⟨H, 2, none⟩ = some (.int .i64 pk) ∧ w'.cell? ⟨H, 3, none⟩ = some (.int .i64 ix) ∧ w'.cell? ⟨G, 2, none⟩ = some (.slice (some ⟨no, 0, none⟩) on oc) ∧ w'.cell? ⟨no, j, none⟩ = some (.string x) ∧ w'.cell? ⟨zg, m * 3, none⟩ = some (.bool y.str) ∧ w'.cell? ⟨zg, m * 3 + 1, none⟩ = some (.int .i64 y.i) ∧ w'.cell? ⟨zg, m * 3 + 2, none⟩ = some (.string y.s))) (by kernel_rfl) hsb0 (fun hH0 => ?_)
              refine takeH 0 82 (v := ?vpb1) rfl rfl (by kernel_rfl) (by kernel_rfl) (by kernel_rfl) (fun _ _ _ h => h) (Or.inl ⟨by rfl, ?hpb1⟩) hH0 ?rpb1
              case hpb1 => (intro w hSw; clear hSw; go_simp; (try with_reducible rfl))
              case rpb1 =>
              try simp only [Act.put, List.setIfInBounds_toArray, List.set_cons_zero, List.set_cons_succ]
              refine takeH 1 83 (v := ?vpb2) rfl rfl (by kernel_rfl) (by kernel_rfl) (by kernel_rfl) (fun _ _ _ h => h) (Or.inl ⟨by rfl, ?hpb2⟩) hH0 ?rpb2
              case hpb2 => (intro w hSw; clear hSw; go_simp; (try with_reducible rfl))
              case rpb2 =>
              try simp only [Act.put, List.setIfInBounds_toArray, List.set_cons_zero, List.set_cons_succ]
              refine takeH 2 84 (v := ?vpb3) rfl rfl (by kernel_rfl) (by kernel_rfl) (by kernel_rfl) (fun _ _ _ h => h) (Or.inl ⟨by rfl, ?hpb3⟩) hH0 ?rpb3
              case hpb3 => (intro w hSw; clear hSw; go_simp; (try with_reducible rfl))
              case rpb3 =>
              try simp only [Act.put, List.setIfInBounds_toArray, List.set_cons_zero, List.set_cons_succ]
              refine takeH 3 85 (v := ?vpb4) rfl rfl (by kernel_rfl) (by kernel_rfl) (by kernel_rfl) (fun _ _ _ h => h) (Or.inl ⟨by rfl, ?hpb4⟩) hH0 ?rpb4
              case hpb4 => (intro w hSw; clear hSw; go_simp; (try with_reducible rfl))
              case rpb4 =>
              try simp only [Act.put, List.setIfInBounds_toArray, List.set_cons_zero, List.set_cons_succ]
              refine takeH 4 86 (v := ?vpb5) rfl rfl (by kernel_rfl) (by kernel_rfl) (by kernel_rfl) (fun _ _ _ h => h) (Or.inl ⟨by rfl, ?hpb5⟩) hH0 ?rpb5
              case hpb5 => (intro w hSw; clear hSw; go_simp; (try with_reducible rfl))
              case rpb5 =>
              try simp only [Act.put, List.setIfInBounds_toArray, List.set_cons_zero, List.set_cons_succ]
              refine takeH 5 87 (v := ?vpb6) rfl rfl (by kernel_rfl) (by kernel_rfl) (by kernel_rfl) (fun _ _ _ h => h) (Or.inl ⟨by rfl, ?hpb6⟩) hH0 ?rpb6
              case hpb6 => (intro w hSw; obtain ⟨s0, s1, s2, s3, s4, s5, s6, s7, s8, s9⟩ := hSw; go_simp; (try with_reducible rfl))
              case rpb6 =>
              try simp only [Act.put, List.setIfInBounds_toArray, List.set_cons_zero, List.set_cons_succ]
              refine takeH 6 88 (v := ?vpb7) rfl rfl (by kernel_rfl) (by kernel_rfl) (by kernel_rfl) (fun _ _ _ h => h) (Or.inl ⟨by rfl, ?hpb7⟩) hH0 ?rpb7
              case hpb7 => (intro w hSw; obtain ⟨s0, s1, s2, s3, s4, s5, s6, s7, s8, s9⟩ := hSw; go_simp; (try with_reducible rfl))
              case rpb7 =>
              try simp only [Act.put, List.setIfInBounds_toArray, List.set_cons_zero, List.set_cons_succ]
              refine takeH 7 89 (v := ?vpb8) rfl rfl (by kernel_rfl) (by kernel_rfl) (by kernel_rfl) (fun _ _ _ h => h) (Or.inl ⟨by rfl, ?hpb8⟩) hH0 ?rpb8
              case hpb8 => (intro w hSw; clear hSw; go_simp; (try with_reducible rfl))
              case rpb8 =>
              try simp only [Act.put, List.setIfInBounds_toArray, List.set_cons_zero, List.set_cons_succ]
              refine takeH 8 90 (v := ?vpb9) rfl rfl (by kernel_rfl) (by kernel_rfl) (by kernel_rfl) (fun _ _ _ h => h) (Or.inl ⟨by rfl, ?hpb9⟩) hH0 ?rpb9
              case hpb9 => (intro w hSw; obtain ⟨s0, s1, s2, s3, s4, s5, s6, s7, s8, s9⟩ := hSw; go_simp; (try with_reducible rfl))
              case rpb9 =>
              try simp only [Act.put, List.setIfInBounds_toArray, List.set_cons_zero, List.set_cons_succ]
              refine takeH 9 91 (v := ?vpb10) rfl rfl (by kernel_rfl) (by kernel_rfl) (by kernel_rfl) (fun _ _ _ h => h) (Or.inl ⟨by rfl, ?hpb10⟩) hH0 ?rpb10
              case hpb10 => (intro w hSw; clear hSw; go_simp; (try with_reducible rfl))
              case rpb10 =>
              try simp only [Act.put, List.setIfInBounds_toArray, List.set_cons_zero, List.set_cons_succ]
              refine takeH 10 92 (v := ?vpb11) rfl rfl (by kernel_rfl) (by kernel_rfl) (by kernel_rfl) (fun _ _ _ h => h) (Or.inl ⟨by rfl, ?hpb11⟩) hH0 ?rpb11
              case hpb11 => (intro w hSw; clear hSw; go_simp; (try with_reducible rfl))
              case rpb11 =>
              try simp only [Act.put, List.setIfInBounds_toArray, List.set_cons_zero, List.set_cons_succ]
              refine takeH 11 93 (v := ?vpb12) rfl rfl (by kernel_rfl) (by kernel_rfl) (by kernel_rfl) (fun _ _ _ h => h) (Or.inl ⟨by rfl, ?hpb12⟩) hH0 ?rpb12
              case hpb12 => (intro w hSw; obtain ⟨s0, s1, s2, s3, s4, s5, s6, s7, s8, s9⟩ := hSw; go_simp; (try with_reducible rfl))
              case rpb12 =>
              try simp only [Act.put, List.setIfInBounds_toArray, List.set_cons_zero, List.set_cons_succ]
              refine callH 12 (by kernel_rfl) rfl 94 rfl rfl 111 Tryz.func111 (by kernel_rfl) (by kernel_rfl) #[.tmp 88, .tmp 93] #[79, 9] rfl #[.agg #[.string tn, .slice ca cn cc, .int .i64 pk, .int .i64 ix], .string x] (by simp [Act.eval]) (R := fun v w' => v = .int .i64 (m : Int) ∧ Only (fun _ => False) wr.drew w') ((unhide C1).mono (by rintro en w' ⟨rfl, o⟩; exact ⟨_, rfl, rfl, o⟩)) ?kcc
              case kcc =>
              rintro _ w6 ⟨rfl, o6⟩
              have oE : Only (fun _ => False) wr w6 := (Only.refl _ wr).drew.trans o6 (fun _ _ e => e)
              have S6 := unhide HSB w6 (oE.mono (fun _ _ e => e.elim))
              refine ⟨S6, ?_⟩
              try simp only [Act.put, List.setIfInBounds_toArray, List.set_cons_zero, List.set_cons_succ]
              refine takeH 13 95 (v := ?vpb13) rfl rfl (by kernel_rfl) (by kernel_rfl) (by kernel_rfl) (fun _ _ _ h => h) (Or.inl ⟨by rfl, ?hpb13⟩) S6 ?rpb13
              case hpb13 => (intro w hSw; clear hSw; go_simp; (try with_reducible rfl))
              case rpb13 =>
              try simp only [Act.put, List.setIfInBounds_toArray, List.set_cons_zero, List.set_cons_succ]
              refine takeH 14 96 (v := ?vpb14) rfl rfl (by kernel_rfl) (by kernel_rfl) (by kernel_rfl) (fun _ _ _ h => h) (Or.inl ⟨by rfl, ?hpb14⟩) S6 ?rpb14
              case hpb14 => (intro w hSw; obtain ⟨s0, s1, s2, s3, s4, s5, s6, s7, s8, s9⟩ := hSw; go_simp; (try with_reducible rfl))
              case rpb14 =>
              try simp only [Act.put, List.setIfInBounds_toArray, List.set_cons_zero, List.set_cons_succ]
              refine takeH 15 97 (v := ?vpb15) rfl rfl (by kernel_rfl) (by kernel_rfl) (by kernel_rfl) (fun _ _ _ h => h) (Or.inl ⟨by rfl, ?hpb15⟩) S6 ?rpb15
              case hpb15 => (intro w hSw; clear hSw; go_simp; (try with_reducible rfl))
              case rpb15 =>
              try simp only [Act.put, List.setIfInBounds_toArray, List.set_cons_zero, List.set_cons_succ]
              have hW6 := (unhide HWj).far oE
              obtain ⟨b0, b1', b2, k0, k1, k2, f0, f1, f2⟩ := hW6.cells (by rw [(unhide HZI).2.2.1]; exact hj)
              refine storeH_any 16 (by kernel_rfl) rfl rfl rfl 152 _ _ rfl ⟨gr, j * 3, none⟩ (.agg #[.bool y.str, .int .i64 y.i, .string y.s]) rfl rfl (run_store_val k0 k1 k2 f0 f1 f2 _ _ _) (unhide HSB _ ((oE.mono (fun _ _ e => e.elim)).trans (((only1 (p := gr) _ _).trans (only1 (p := gr) _ _) (fun _ _ h => h)).trans (only1 (p := gr) _ _) (fun _ _ h => h)) (fun _ _ e => e))) ?_
              try simp only [Act.put, List.setIfInBounds_toArray, List.set_cons_zero, List.set_cons_succ]
              refine wpAnyH_done (by kernel_rfl) ?_ _
              have HQ := hide (hW6.step (unhide HYY) (by omega))
              clear hW6 k0 k1 k2 f0 f1 f2 o6 oE S6 C1 HSB hsb0 hcx s0 s1 s2 s3 g2 x0 v0 v1 v2
              go_wp2_with fail
              go_roundw
              case rel => exact ⟨j + 1, by go_num, by omega, unhide HQ⟩
              case measure => simp [intOf]; omega
            · have b1 : decide ((j : Int) < (on : Int)) = false := decide_eq_false (by omega)
              have b1p : ¬ (j : Int) < (on : Int) := by omega
              have hje : j = pr.length := by rw [(unhide HZI).2.2.1]; omega
              rw [hje] at hW
              have hV := hW.done (by rw [(unhide HZI).2.2.1]; omega)
              rw [(unhide HZI).2.2.1] at hV
              have g3 : wr.cell? ⟨G, 3, none⟩ = some (.slice ra rn rc) := G2.cell 3
              have g3f := G2.free 3
              have Y1 := (unhide HW).2.1.quiet hW.on
              have own1 := Y1.own
              have hrn := (unhide HZI).2.2.2.1
              rw [← hrn] at own1
              have hr8 := (unhide HZI).2.2.2.2
              have hr9 : rn ≤ 8 := by omega
              have neG : ∀ b, (Value.slice ra rn rc).ownBlock = some b → b ≠ G := fun b hb => ownsRow_ne own1 G2 (by decide) b hb
              have HPP := hide (show ∀ (v' : Value) (w9 : World) (ob : Obj), w9.ownsRow 0 95 1 v' (rn + 1) (Y.map (·.1) ++ [.slice (some ⟨gr, 0, none⟩) on on]) → (wr.alloc ob).grownBy w9 (Value.slice ra rn rc).ownBlock → (∀ b, v'.ownBlock = some b → (Value.slice ra rn rc).ownBlock = some b ∨ b = wr.heap.size + 1) → ∃ ra' rn' rc' Y', v' = .slice ra' rn' rc' ∧ Has (w9.setCell ⟨G, 3, none⟩ v') G #[.int .i64 0, .int .i64 (N : Int), .slice oa on oc, .slice ra' rn' rc'] 52 ∧ RL H (.slice ra' rn' rc') Y' (w9.setCell ⟨G, 3, none⟩ v') ∧ Y'.map (·.2) = ((Z'.map (·.2)).take (i + 1)).map (prjR cols nl) ∧ OwnN (w9.setCell ⟨G, 3, none⟩ v') (.slice oa on oc) nl ∧ PjI H #[.string tn, .slice ca cn cc, .int .i64 pk, .int .i64 ix] #[.int .i64 st.kind, .string st.table, .slice a2 n2 c2, .int .i64 st.pk, .slice a4 n4 c4, .bool st.star, .slice a6 st.list.length c6, .slice a7 n7 c7, .slice a8 n8 c8, .string st.order, .bool st.desc, .bool st.hasL, .int .i64 st.lim] (.slice ca cn cc) cols (w9.setCell ⟨G, 3, none⟩ v') ∧ RL lo (.slice ha hn hc) Z' (w9.setCell ⟨G, 3, none⟩ v') ∧ Only (fun b => (Value.slice ha hn hc).ownBlock = some b ∨ (Value.slice a6 st.list.length c6).ownBlock = some b) w (w9.setCell ⟨G, 3, none⟩ v') ∧ w9.cell? ⟨G, 3, none⟩ = some (.slice ra rn rc) ∧ w9.frozen? ⟨G, 3, none⟩ = false from by
                intro v' w9 ob h1 h2 h3
                have hgl := (unhide HW).1.lt
                have hgs := hW.on.size
                have hGH := unhide HGH
                rw [hrn] at h1
                obtain ⟨p1, p2⟩ := Y1.push hV (fun b hb => by (have hb' : gr = b := by simpa [Value.ownBlock] using hb); omega) (fun z' hz' b hb e => by
                    have e' : gr = b := by simpa [Value.ownBlock] using e
                    have := ownsRow_lt ((unhide HW).2.1.row z' hz').1 b hb
                    omega) (by omega) h1 h2 h3
                obtain ⟨ra', rc', rfl⟩ := ownsRow_shape h1
                have oS : Only (fun b => b = G) w9 (w9.setCell ⟨G, 3, none⟩ (.slice ra' (Y.length + 1) rc')) := only1 _ _
                have G9 := G2.keep p2 (fun h => neG G h rfl)
                have P9 := ((unhide HW).2.2.2.2.1.quiet hW.on).keep p2 (((unhide HW).2.2.2.2.1.quiet hW.on).apE own1 (by decide) (by decide) (by decide) (by decide))
                have N9 := ownsRow_keep (ownsRow_keep (unhide HW).2.2.2.1 hW.on (fun _ _ e => e)) p2 (fun b hb h => by obtain ⟨c0, hc0⟩ := ownsRow_has (ownsRow_keep (unhide HW).2.2.2.1 hW.on (fun _ _ e => e)) hb; exact ownsRow_ne own1 hc0 (by decide) b h rfl)
                have R9 : RL lo (.slice ha hn hc) Z' w9 := by
                    have R0 := (unhide HW).2.2.2.2.2.1.quiet hW.on
                    refine R0.keep p2 (fun b hb h => ?_) (fun z' hz' b hb h => ?_)
                    · have h1' := unhide HHL b hb; have h2' := (unhide HW).2.1.nb b h; omega
                    · obtain ⟨c0, hc0⟩ := ownsRow_has (R0.row z' hz').1 hb
                      exact ownsRow_ne own1 hc0 (by decide) b h rfl
                refine ⟨ra', _, rc', Y ++ [(.slice (some ⟨gr, 0, none⟩) on on, pr)], rfl, G9.setCell 3 _, ?_, ?_, ?_, ?_, ?_, ?_, G9.cell 3, G9.free 3⟩
                · exact p1.keep oS (fun b hb (e : b = G) => ownsRow_ne p1.own G9 (by decide) b hb e) (fun z' hz' b hb (e : b = G) => ownsRow_ne (p1.row z' hz').1 G9 (by decide) b hb e)
                · rw [List.map_append, (unhide HW).2.2.1, List.take_add_one, List.getElem?_map, (unhide HZI).1]
                  simp [(unhide HZI).2.1]
                · exact ownsRow_keep N9 oS (fun b hb (e : b = G) => ownsRow_ne N9 G9 (by decide) b hb e)
                · refine P9.keep oS (fun b hb (e : b = G) => ?_)
                  subst e
                  rcases hb with h | h | h | h
                  · omega
                  · omega
                  · omega
                  · obtain ⟨c0, hc0⟩ := ownsRow_has P9.oc h
                    exact Has.ne hc0 G9 (by decide) rfl
                · exact R9.keep oS (fun b hb (e : b = G) => ownsRow_ne R9.own G9 (by decide) b hb e) (fun z' hz' b hb (e : b = G) => ownsRow_ne (R9.row z' hz').1 G9 (by decide) b hb e)
                · exact ((((unhide HW).2.2.2.2.2.2.trans (hW.on.mono (fun _ _ e => e.elim)) (fun _ _ e => e)).trans (p2.mono (T := fun b => ((Value.slice ha hn hc).ownBlock = some b ∨ (Value.slice a6 st.list.length c6).ownBlock = some b) ∨ H ≤ b) (fun b _ h => .inr ((unhide HW).2.1.nb b h))) (fun b hl h => h.elim id (fun h => by omega))).trans (oS.mono (T := fun b => ((Value.slice ha hn hc).ownBlock = some b ∨ (Value.slice a6 st.list.length c6).ownBlock = some b) ∨ H ≤ b) (fun b _ (h : b = G) => .inr (by omega))) (fun b hl h => h.elim id (fun h => by omega)) : Only _ _ _))
              clear Y1 hV G2 hW hje neG hr8 hrn
              have glr := gl
              go_wp2_with (at_builtin; refine wpList_append2 _ rfl _ _ 50 rfl 95 i0 _ 1 24 Tryz.underlying50 hi0 hz0 hz1 hz2 rfl (by decide) _ _ _ rfl (own1.alloc _) ⟨wr.heap.size, 0, none⟩ 1 1 [.slice (some ⟨gr, 0, none⟩) on on] rfl rfl ?f1 ?f2 ?f3 ?f4 ?_)
              (try case f1 => exact news_ok _ [.slice (some ⟨gr, 0, none⟩) on on] 95 _ rfl)
              case f2 => first | rfl | (intro u hu; simp at hu; subst hu; rfl)
              case f3 => unfold maxLen; omega
              case f4 => omega
              intro v' w9 hown hgrow hwhere
              obtain ⟨ra', rn', rc', Y', hv', q1, q2, q3, q4, q5, q6, q7, q8, q9⟩ := unhide HPP v' w9 _ hown hgrow hwhere
              subst hv'
              have gl9 : G < w9.heap.size := cell_lt q8
              have HQ := hide (And.intro q1 (And.intro q2 (And.intro q3 (And.intro q4 (And.intro q5 (And.intro q6 q7))))))
              clear q1 q2 q3 q4 q5 q6 q7 hown hgrow hwhere HPP own1 g3 g3f g2 gl glr HW HZI
              go_wp2_with fail
              go_roundw
              case rel => exact ⟨i + 1, ra', rn', rc', Y', by go_num, by omega, (unhide HQ).1, (unhide HQ).2.1, (unhide HQ).2.2.1, (unhide HQ).2.2.2.1, (unhide HQ).2.2.2.2.1, (unhide HQ).2.2.2.2.2.1, (unhide HQ).2.2.2.2.2.2⟩
              case measure => simp [intOf]; omega
        · have a1 : decide ((i : Int) < (N : Int)) = false := decide_eq_false (by omega)
          have a1p : ¬ (i : Int) < (N : Int) := by omega
          have hiE : i = N := by omega
          subst hiE
          have g0 : wr.cell? ⟨G, 0, none⟩ = some (.int .i64 0) := hG1.cell 0
          have g1 : wr.cell? ⟨G, 1, none⟩ = some (.int .i64 (i : Int)) := hG1.cell 1
          have g3 : wr.cell? ⟨G, 3, none⟩ = some (.slice ra rn rc) := hG1.cell 3
          have r0 : wr.cell? ⟨H + 2, 0, none⟩ = some (.int .i64 0) := hP1.rb.cell 0
          have r1 : wr.cell? ⟨H + 2, 1, none⟩ = some (.int .i64 0) := hP1.rb.cell 1
          have r2 : wr.cell? ⟨H + 2, 2, none⟩ = some (.slice none 0 0) := hP1.rb.cell 2
          have r3 : wr.cell? ⟨H + 2, 3, none⟩ = some (.slice none 0 0) := hP1.rb.cell 3
          have rf0 := hP1.rb.free 0
          have rf1 := hP1.rb.free 1
          have rf2 := hP1.rb.free 2
          have rf3 := hP1.rb.free 3
          have rl := hP1.rb.lt
          have H5 := has_setAll [.int .i64 0, .int .i64 (i : Int), .slice oa on oc, .slice ra rn rc] hP1.rb rfl
          have O5 := only_setW (H + 2) [.int .i64 0, .int .i64 (i : Int), .slice oa on oc, .slice ra rn rc] 0 wr
          have hz2 := unhide HZ
          have hnl2 := unhide HNL
          have hGH := unhide HGH
          have hR0 : R = ⟨0, (i : Int), nl, ((Z'.map (·.2)).take i).map (prjR cols nl)⟩ := by
            rw [← unhide HRd]
            unfold prjD
            rw [List.length_map, (unhide HP).2.2.2, unhide HN, hnl2.1, hz2.2.2]
          have FF := hide (And.intro H5 (show PjP w (.slice ha hn hc) (.slice a6 st.list.length c6) R (.returned (.agg #[.int .i64 0, .int .i64 (i : Int), .slice oa on oc, .slice ra rn rc])) (setW (H + 2) [.int .i64 0, .int .i64 (i : Int), .slice oa on oc, .slice ra rn rc] 0 wr) from (by
            rw [hR0]
            refine ⟨oa, on, oc, ra, rn, rc, rfl, ⟨ownsRow_keep hN1 O5 (fun b hb (e : b = H + 2) => ownsRow_ne hN1 hP1.rb (by decide) b hb e), Y, ?_, hYm⟩, fun b hb => ?_, ?_⟩
            · rw [hH]
              exact hY.keep O5 (fun b hb (e : b = H + 2) => ownsRow_ne hY.own hP1.rb (by decide) b hb e) (fun z hz b hb (e : b = H + 2) => ownsRow_ne (hY.row z hz).1 hP1.rb (by decide) b hb e)
            · rw [hH]; exact unhide HB1 b hb
            · exact hO1.lateS O5 (fun b (e : b = H + 2) => by omega))))
          simp only [setW, Nat.zero_add, Nat.reduceAdd] at FF
          have e22 : H + 2 = H + 1 + 1 := rfl
          rw [e22] at FF
          clear e22
          clear H5 O5 hG1 hY hYm hN1 hP1 hR1 hO1 hR0 hz2 hnl2 hrnY hYl
          go_wp2_with fail
          refine bodyPost_ret (sres_result rfl _ rfl (unhide FF).1 rfl) rfl ?_
          exact (unhide FF).2
end
end Go.Proofs.Qxb6500412aGreat
