/-
  OWN WORK. QUERY's MODEL: project (written by tools/gen_qe6.py).
-/
import Derived.Test.Qxb6500412aGreatQE5
import Derived.Test.Qxb6500412aGreatQE2
namespace Go.Proofs.Qxb6500412aGreat
open Go.RowKit Go.PlainAid
set_option linter.unusedSimpArgs false
set_option linter.unusedVariables false

/-- What the model's project answers. -/
def PmP (w : World) (hv nv : Value) (R : Rs) (e : Ending) (w' : World) : Prop :=
  ∃ na nn nc ra rn rc, e = .returned (.agg #[.int .i64 R.e, .int .i64 R.n, .slice na nn nc, .slice ra rn rc]) ∧ RsM w.heap.size w' (.slice na nn nc) (.slice ra rn rc) R ∧ (∀ b, (Value.slice na nn nc).ownBlock = some b → nv.ownBlock = some b ∨ w.heap.size ≤ b) ∧ Only (fun b => hv.ownBlock = some b) w w'
/-- The copies of schema and statement, the result's block, the columns, the rows. -/
structure PmS (w : World) (H : Nat) (sc sv : Array Value) (cv : Value) (cols : List Cl) (lo : Nat) (hv : Value) (Z : List (Value × List Vl)) (HB : Nat → Prop) (wr : World) : Prop where
  sc : Has wr H sc 79
  sv : Has wr (H + 1) sv 253
  rb : Has wr (H + 2) #[.int .i64 0, .int .i64 0, .slice none 0 0, .slice none 0 0] 52
  oc : OwnC wr cv cols
  rl : RL lo hv Z wr
  on : Only HB w wr
section
variable {w wr wx : World} {ca ha : Option Addr} {cn cc hn hc : Nat} {cols : List Cl} {tn : ByteArray} {pk ix : Int} {lo H : Nat} {S : Sq} {st : St} {m : Ms} {Z : List (Value × List Vl)} {sc sv : Array Value} {cv hv : Value} {HB : Nat → Prop}
theorem PmS.keep {Bx : Nat → Prop} (h : PmS w H sc sv cv cols lo hv Z HB wr) (o : Only Bx wr wx) (hB : ∀ b, b = H ∨ b = H + 1 ∨ b = H + 2 ∨ cv.ownBlock = some b ∨ hv.ownBlock = some b ∨ (∃ z ∈ Z, z.1.ownBlock = some b) → ¬ Bx b) (hn : ∀ b, b < w.heap.size → Bx b → HB b) : PmS w H sc sv cv cols lo hv Z HB wx :=
  ⟨h.sc.keep o (hB _ (.inl rfl)), h.sv.keep o (hB _ (.inr (.inl rfl))), h.rb.keep o (hB _ (.inr (.inr (.inl rfl)))), h.oc.keep o (fun b hb => hB b (.inr (.inr (.inr (.inl hb))))), h.rl.keep o (fun b hb => hB b (.inr (.inr (.inr (.inr (.inl hb)))))) (fun z hz b hb => hB b (.inr (.inr (.inr (.inr (.inr ⟨z, hz, hb⟩)))))), h.on.trans o hn⟩
theorem PmS.quiet (h : PmS w H sc sv cv cols lo hv Z HB wr) (o : Only (fun _ => False) wr wx) : PmS w H sc sv cv cols lo hv Z HB wx := h.keep o (fun _ _ e => e) (fun _ _ e => e.elim)
/-- A row of another type: its block is none of these. -/
theorem PmS.ap (h : PmS w H sc sv cv cols lo hv Z HB wr) {v : Value} {n : Nat} {xs : List Value} {ty : TypeId} {k : Nat} (hv' : wr.ownsRow 0 ty k v n xs) (h1 : ty ≠ 79) (h2 : ty ≠ 253) (h3 : ty ≠ 52) (h4 : ty ≠ 149) (h5 : ty ≠ 95 ∨ ∀ b, v.ownBlock = some b → hv.ownBlock ≠ some b) (h6 : ty ≠ 152) : ∀ b, b = H ∨ b = H + 1 ∨ b = H + 2 ∨ cv.ownBlock = some b ∨ hv.ownBlock = some b ∨ (∃ z ∈ Z, z.1.ownBlock = some b) → ¬ v.ownBlock = some b := by
  intro b hb e
  rcases hb with c | c | c | c | c | ⟨z, hz, c⟩
  · exact ownsRow_ne hv' h.sc h1 b e c
  · exact ownsRow_ne hv' h.sv h2 b e c
  · exact ownsRow_ne hv' h.rb h3 b e c
  · obtain ⟨c0, hc0⟩ := ownsRow_has h.oc c
    exact ownsRow_ne hv' hc0 h4 b e rfl
  · rcases h5 with h5 | h5
    · obtain ⟨c0, hc0⟩ := ownsRow_has h.rl.own c
      exact ownsRow_ne hv' hc0 h5 b e rfl
    · exact h5 b e c
  · obtain ⟨c0, hc0⟩ := ownsRow_has (h.rl.row z hz).1 c
    exact ownsRow_ne hv' hc0 h6 b e rfl
/-- A prefix of a list of rows. -/
theorem RL.prefix {a : Option Addr} {n cap k : Nat} (h : RL lo (.slice a n cap) Z w) (hn : n = Z.length) (hk : k ≤ n) : RL lo (.slice a k cap) (Z.take k) w := by
  refine ⟨?_, fun z hz => h.row z (List.mem_of_mem_take hz), fun b hb => h.nb b (by cases a <;> exact hb), h.ap.sublist (List.take_sublist _ _)⟩
  have hl : (Z.take k).length = k := by rw [List.length_take]; omega
  rw [hl]
  have ho := h.own
  refine ⟨by rw [List.length_map, hl]; simp, ?_⟩
  rcases ho.2 with ⟨he, h0⟩ | ⟨g, cap', cur, he, h1, h2, h3, h4, h5, h6⟩
  · left
    have e1 : n = 0 := by omega
    have : k = 0 := by omega
    subst this
    have := he
    simp only [Value.slice.injEq] at this
    exact ⟨by rw [this.1, this.2.2], rfl⟩
  · right
    simp only [Value.slice.injEq] at he
    refine ⟨g, cap', cur, by rw [he.1, he.2.2], h1, h2, by omega, h4, h5, ?_⟩
    rw [List.map_take, ← h6, List.take_take]
    congr 1
    omega
theorem RL.room {a : Option Addr} {n cap : Nat} (h : RL lo (.slice a n cap) Z w) : Z.length ≤ cap ∧ n = Z.length := by
  obtain ⟨_, _, e⟩ := ownsRow_shape h.own
  have hn : n = Z.length := by cases e; rfl
  rcases h.own.2 with ⟨he, h0⟩ | ⟨g, cap', cur, he, h1, h2, h3, h4, h5, h6⟩
  · exact ⟨by omega, hn⟩
  · simp only [Value.slice.injEq] at he
    exact ⟨by omega, hn⟩
set_option maxRecDepth 100000 in
set_option maxHeartbeats 32000000 in
theorem smproject_any (hC : OwnC w (.slice ca cn cc) cols) (hcl : cols.length ≤ 3) (hL : SML 0 w S) (hO : SmOf S m) (hR : RL lo (.slice ha hn hc) Z w) (hZ8 : Z.length ≤ 8) (hrow : ∀ z ∈ Z, z.2.length = cols.length) (hord : m.order ≠ ⟨#[]⟩ → 0 ≤ qcol cols m.order) (hnm : ∀ n ∈ m.names, 0 ≤ qcol cols n) (hll : m.names.length ≤ 200) (hst : st.order = m.order ∧ st.desc = m.desc ∧ st.hasL = m.hasL ∧ st.lim = m.lim ∧ st.star = m.star ∧ st.list = m.names) (hstar : m.star = true → m.names = []) : Calls Tryz.prog 279 #[schU tn (.slice ca cn cc) pk ix, .agg (tabV 12 S.cell), .slice ha hn hc] w (PmP w (.slice ha hn hc) (S.cell 4) (prjD cols st (Z.map (·.2)))) := by
  obtain ⟨i0, hi0, hz0, hz1, hz2⟩ := info_parts Tryz.infoEVals
  obtain ⟨j0, hj0, hy0, hy1, hy2⟩ := info_parts Tryz.infoEStr
  obtain ⟨k0, hk0, hx0, hx1, hx2⟩ := info_parts Tryz.infoEVal
  unfold schU
  obtain ⟨a2, n2, c2, a4, n4, c4, a5, n5, c5, a7, n7, c7, hcs⟩ := hO.cells_ hL
  have x4 := hL.own 4 (by unfold smj; omega)
  have q4 : S.cell 4 = .slice a4 n4 c4 := by
    have := congrArg (·[4]?) hcs
    simpa [tabV_get] using this
  rw [q4, hO.x4.1, hO.x4.2] at x4
  rw [q4, hcs]
  have x4 : OwnN w (.slice a4 n4 c4) m.names := x4
  have h4 : n4 = m.names.length := by obtain ⟨_, _, e⟩ := ownsRow_shape x4; cases e; rfl
  subst h4
  obtain ⟨zn, hzn⟩ : ∃ n, Z.length = n := ⟨_, rfl⟩
  have hh : hn = zn := by obtain ⟨_, _, e⟩ := ownsRow_shape hR.own; cases e; exact hzn
  subst hh
  have o0 : Only (fun _ => False) w (w.alloc (.cells #[.string tn, .slice ca cn cc, .int .i64 pk, .int .i64 ix] 79)) := (Only.refl _ w).alloc _
  have o1 : Only (fun _ => False) (w.alloc (.cells #[.string tn, .slice ca cn cc, .int .i64 pk, .int .i64 ix] 79)) ((w.alloc (.cells #[.string tn, .slice ca cn cc, .int .i64 pk, .int .i64 ix] 79)).alloc (.cells #[.int .i64 m.kind, .string m.table, .slice a2 n2 c2, .int .i64 m.pk, .slice a4 m.names.length c4, .slice a5 n5 c5, .bool m.star, .slice a7 n7 c7, .string m.order, .bool m.desc, .bool m.hasL, .int .i64 m.lim] 253)) := (Only.refl _ _).alloc _
  have o2 : Only (fun _ => False) ((w.alloc (.cells #[.string tn, .slice ca cn cc, .int .i64 pk, .int .i64 ix] 79)).alloc (.cells #[.int .i64 m.kind, .string m.table, .slice a2 n2 c2, .int .i64 m.pk, .slice a4 m.names.length c4, .slice a5 n5 c5, .bool m.star, .slice a7 n7 c7, .string m.order, .bool m.desc, .bool m.hasL, .int .i64 m.lim] 253)) (((w.alloc (.cells #[.string tn, .slice ca cn cc, .int .i64 pk, .int .i64 ix] 79)).alloc (.cells #[.int .i64 m.kind, .string m.table, .slice a2 n2 c2, .int .i64 m.pk, .slice a4 m.names.length c4, .slice a5 n5 c5, .bool m.star, .slice a7 n7 c7, .string m.order, .bool m.desc, .bool m.hasL, .int .i64 m.lim] 253)).alloc (.cells #[.int .i64 0, .int .i64 0, .slice none 0 0, .slice none 0 0] 52)) := (Only.refl _ _).alloc _
  have N0 := Has.new w #[.string tn, .slice ca cn cc, .int .i64 pk, .int .i64 ix] 79
  have N1 := Has.new' (w.alloc (.cells #[.string tn, .slice ca cn cc, .int .i64 pk, .int .i64 ix] 79)) #[.int .i64 m.kind, .string m.table, .slice a2 n2 c2, .int .i64 m.pk, .slice a4 m.names.length c4, .slice a5 n5 c5, .bool m.star, .slice a7 n7 c7, .string m.order, .bool m.desc, .bool m.hasL, .int .i64 m.lim] 253 (w.heap.size + 1) (by simp)
  have N2 := Has.new' ((w.alloc (.cells #[.string tn, .slice ca cn cc, .int .i64 pk, .int .i64 ix] 79)).alloc (.cells #[.int .i64 m.kind, .string m.table, .slice a2 n2 c2, .int .i64 m.pk, .slice a4 m.names.length c4, .slice a5 n5 c5, .bool m.star, .slice a7 n7 c7, .string m.order, .bool m.desc, .bool m.hasL, .int .i64 m.lim] 253)) #[.int .i64 0, .int .i64 0, .slice none 0 0, .slice none 0 0] 52 (w.heap.size + 2) (by simp)
  have oA := (o0.trans o1 (fun _ _ e => e)).trans o2 (fun _ _ e => e)
  have HA := hide (show PmS w w.heap.size #[.string tn, .slice ca cn cc, .int .i64 pk, .int .i64 ix] #[.int .i64 m.kind, .string m.table, .slice a2 n2 c2, .int .i64 m.pk, .slice a4 m.names.length c4, .slice a5 n5 c5, .bool m.star, .slice a7 n7 c7, .string m.order, .bool m.desc, .bool m.hasL, .int .i64 m.lim] (.slice ca cn cc) cols lo (.slice ha hn hc) Z (fun b => (Value.slice ha hn hc).ownBlock = some b) (((w.alloc (.cells #[.string tn, .slice ca cn cc, .int .i64 pk, .int .i64 ix] 79)).alloc (.cells #[.int .i64 m.kind, .string m.table, .slice a2 n2 c2, .int .i64 m.pk, .slice a4 m.names.length c4, .slice a5 n5 c5, .bool m.star, .slice a7 n7 c7, .string m.order, .bool m.desc, .bool m.hasL, .int .i64 m.lim] 253)).alloc (.cells #[.int .i64 0, .int .i64 0, .slice none 0 0, .slice none 0 0] 52)) ∧ OwnN (((w.alloc (.cells #[.string tn, .slice ca cn cc, .int .i64 pk, .int .i64 ix] 79)).alloc (.cells #[.int .i64 m.kind, .string m.table, .slice a2 n2 c2, .int .i64 m.pk, .slice a4 m.names.length c4, .slice a5 n5 c5, .bool m.star, .slice a7 n7 c7, .string m.order, .bool m.desc, .bool m.hasL, .int .i64 m.lim] 253)).alloc (.cells #[.int .i64 0, .int .i64 0, .slice none 0 0, .slice none 0 0] 52)) (.slice a4 m.names.length c4) m.names from ⟨⟨(N0.keep o1 (fun e => e)).keep o2 (fun e => e), N1.keep o2 (fun e => e), N2, hC.keep oA (fun _ _ e => e), hR.quiet oA, oA.mono (fun _ _ e => e.elim)⟩, ownsRow_keep x4 oA (fun _ _ e => e)⟩)
  have HHL := hide (show (∀ b, (Value.slice ha hn hc).ownBlock = some b → b < w.heap.size) ∧ (∀ z ∈ Z, ∀ b, z.1.ownBlock = some b → b < w.heap.size) ∧ (∀ b, (Value.slice a4 m.names.length c4).ownBlock = some b → b < w.heap.size) from ⟨ownsRow_lt hR.own, fun z hz => ownsRow_lt (hR.row z hz).1, ownsRow_lt x4⟩)
  have HP := hide (And.intro hrow (And.intro hord (And.intro hnm (And.intro hzn (And.intro hst hstar)))))
  rw [hzn] at hZ8
  obtain ⟨R, hRd⟩ : ∃ R, prjD cols st (Z.map (·.2)) = R := ⟨_, rfl⟩
  rw [hRd]
  have HRd := hide hRd
  clear o0 o1 o2 N0 N1 N2 oA hC hL hO x4 q4 hcs hR hrow hord hnm hzn hRd hst hstar
  go_enter Tryz.func279, Tryz.ntmps279
  go_upto_region 1 with fail
  generalize ((w.alloc (.cells #[.string tn, .slice ca cn cc, .int .i64 pk, .int .i64 ix] 79)).alloc (.cells #[.int .i64 m.kind, .string m.table, .slice a2 n2 c2, .int .i64 m.pk, .slice a4 m.names.length c4, .slice a5 n5 c5, .bool m.star, .slice a7 n7 c7, .string m.order, .bool m.desc, .bool m.hasL, .int .i64 m.lim] 253)).alloc (.cells #[.int .i64 0, .int .i64 0, .slice none 0 0, .slice none 0 0] 52) = w1 at *
  generalize hH : w.heap.size = H at *
  have t9 : w1.cell? ⟨H + 1, 8, none⟩ = some (.string m.order) := (unhide HA).1.sv.cell 8
  have tl := (unhide HA).1.sv.lt
  go_cut [16] from 14 to 15 (fun bv wx => bv = .bool (decide (m.order ≠ ⟨#[]⟩)) ∧ w1 = wx)
  case first =>
    by_cases ho : m.order = ⟨#[]⟩
    · have q0 : (m.order.toList == []) = true := by have h2 := seq_t (a := m.order) (b := ⟨#[]⟩) ho; rwa [show (⟨#[]⟩ : ByteArray).toList = [] from by simp] at h2
      have HE := hide (show decide (m.order ≠ ⟨#[]⟩) = false from decide_eq_false (fun c => c ho))
      clear ho
      go_wp2_with fail
      go_meet
      exact ⟨by rw [unhide HE], rfl⟩
    · have q0 : (m.order.toList == []) = false := by have h2 := seq_f (a := m.order) (b := ⟨#[]⟩) ho; rwa [show (⟨#[]⟩ : ByteArray).toList = [] from by simp] at h2
      have HE := hide (show decide (m.order ≠ ⟨#[]⟩) = true from decide_eq_true ho)
      clear ho
      go_wp2_with fail
      go_meet
      exact ⟨by rw [unhide HE], rfl⟩
  case rest =>
  obtain ⟨rfl, hwx⟩ := hcut
  subst hwx
  obtain ⟨ob, hob⟩ : ∃ b, decide (m.order ≠ ⟨#[]⟩) = b := ⟨_, rfl⟩
  rw [hob]
  have HOB := hide hob
  clear hob
  go_upto_if 16 with fail
  go_cut [7] from 17 to 25 (fun _ wx => ∃ Z', RL lo (.slice ha hn hc) Z' wx ∧ Z'.Perm Z ∧ Z'.map (·.2) = ordD cols st (Z.map (·.2)) ∧ Only (fun b => (Value.slice ha hn hc).ownBlock = some b) w1 wx)
  case first =>
    cases ob with
    | false =>
      have ho : st.order = ⟨#[]⟩ := by rw [(unhide HP).2.2.2.2.1.1]; exact Classical.byContradiction (fun c => of_decide_eq_false (unhide HOB) c)
      have HE := hide (show ordD cols st (Z.map (·.2)) = Z.map (·.2) by unfold ordD; rw [if_pos ho])
      clear ho
      go_wp2_with fail
      go_meet
      exact ⟨Z, (unhide HA).1.rl, List.Perm.refl _, (unhide HE).symm, Only.refl _ _⟩
    | true =>
      have ho : m.order ≠ ⟨#[]⟩ := of_decide_eq_true (unhide HOB)
      have h0 := (unhide HP).2.1 ho
      have hqr := qcol_rng cols m.order
      obtain ⟨mc, hm⟩ : ∃ m' : Nat, qcol cols m.order = (m' : Int) := ⟨(qcol cols m.order).toNat, by omega⟩
      have s0 : w1.cell? ⟨H, 0, none⟩ = some (.string tn) := (unhide HA).1.sc.cell 0
      have s1 : w1.cell? ⟨H, 1, none⟩ = some (.slice ca cn cc) := (unhide HA).1.sc.cell 1
      have s2 : w1.cell? ⟨H, 2, none⟩ = some (.int .i64 pk) := (unhide HA).1.sc.cell 2
      have s3 : w1.cell? ⟨H, 3, none⟩ = some (.int .i64 ix) := (unhide HA).1.sc.cell 3
      have sl := (unhide HA).1.sc.lt
      have C1 := smcolOf_any (tn := tn) (pk := pk) (ix := ix) (unhide HA).1.oc (by omega) m.order
      unfold schU at C1
      rw [hm] at C1
      have C1 := hide C1
      have hml : mc < cols.length := by omega
      have HE := hide (show ordD cols st (Z.map (·.2)) = (if m.desc = true then sortP (cmpRd mc) (Z.map (·.2)) else sortP (cmpR mc) (Z.map (·.2))) by unfold ordD; rw [(unhide HP).2.2.2.2.1.1, (unhide HP).2.2.2.2.1.2.1, if_neg ho, hm]; rfl)
      have Hml := hide hml
      clear ho h0 hqr hm hml
      go_wp2_with fail
      refine (unhide C1).mono ?_
      rintro e w2 ⟨rfl, o2⟩
      have t10 : w2.cell? ⟨H + 1, 9, none⟩ = some (.bool m.desc) := o2.cellS ((unhide HA).1.sv.cell 9)
      have tl2 : H + 1 < w2.heap.size := Nat.lt_of_lt_of_le tl o2.size
      have R2 := (unhide HA).1.rl.quiet o2
      have HO2 := hide o2
      have hzn := (unhide HP).2.2.2.1
      have hrc : ∀ z ∈ Z, OwnV w2 z.1 z.2 ∧ mc < z.2.length := fun z hz => ⟨(R2.row z hz).1, by rw [(unhide HP).1 z hz]; exact unhide Hml⟩
      have own2 := R2.own
      have HR2 := hide R2
      obtain ⟨ds, hds⟩ : ∃ b, m.desc = b := ⟨_, rfl⟩
      rw [hds] at HE t10
      clear C1 o2 s0 s1 s2 s3 sl t9 R2 hds
      cases ds with
      | true =>
        have CS := msortD_any (c := mc) own2 hrc (by omega)
        rw [hzn] at CS
        have CS := hide CS
        clear own2 hrc hzn
        go_wp2_with fail
        refine (unhide CS).mono ?_
        rintro e w3 ⟨rfl, h1, h2⟩
        have HF := hide (show ∃ Z', RL lo (.slice ha hn hc) Z' w3 ∧ Z'.Perm Z ∧ Z'.map (·.2) = ordD cols st (Z.map (·.2)) ∧ Only (fun b => (Value.slice ha hn hc).ownBlock = some b) w1 w3 from ⟨sortP (cmpZd mc) Z, (unhide HR2).sorted h2 (sortP_perm _ _) (by rw [(unhide HP).2.2.2.1]; exact h1), sortP_perm _ _, by rw [unhide HE]; exact sortP_map (st := cmpRd mc) (fun z : Value × List Vl => z.2) Z, ((unhide HO2).mono (fun _ _ e => e.elim)).trans h2 (fun _ _ e => e)⟩)
        clear h1 h2 CS t10
        go_wp2_with fail
        go_meet
        exact unhide HF
      | false =>
        have CS := msort_any (c := mc) own2 hrc (by omega)
        rw [hzn] at CS
        have CS := hide CS
        clear own2 hrc hzn
        go_wp2_with fail
        refine (unhide CS).mono ?_
        rintro e w3 ⟨rfl, h1, h2⟩
        have HF := hide (show ∃ Z', RL lo (.slice ha hn hc) Z' w3 ∧ Z'.Perm Z ∧ Z'.map (·.2) = ordD cols st (Z.map (·.2)) ∧ Only (fun b => (Value.slice ha hn hc).ownBlock = some b) w1 w3 from ⟨sortP (cmpZ mc) Z, (unhide HR2).sorted h2 (sortP_perm _ _) (by rw [(unhide HP).2.2.2.1]; exact h1), sortP_perm _ _, by rw [unhide HE]; exact sortP_map (st := cmpR mc) (fun z : Value × List Vl => z.2) Z, ((unhide HO2).mono (fun _ _ e => e.elim)).trans h2 (fun _ _ e => e)⟩)
        clear h1 h2 CS t10
        go_wp2_with fail
        go_meet
        exact unhide HF
  case rest =>
  obtain ⟨Z', hR2, hpm, hzo, oC⟩ := hcut
  have hA := (unhide HA).1
  have HA2 := hide (show PmS w H #[.string tn, .slice ca cn cc, .int .i64 pk, .int .i64 ix] #[.int .i64 m.kind, .string m.table, .slice a2 n2 c2, .int .i64 m.pk, .slice a4 m.names.length c4, .slice a5 n5 c5, .bool m.star, .slice a7 n7 c7, .string m.order, .bool m.desc, .bool m.hasL, .int .i64 m.lim] (.slice ca cn cc) cols lo (.slice ha hn hc) Z' (fun b => (Value.slice ha hn hc).ownBlock = some b) wc ∧ OwnN wc (.slice a4 m.names.length c4) m.names from
    ⟨⟨hA.sc.keep oC (fun e => ownsRow_ne hA.rl.own hA.sc (by decide) _ e rfl), hA.sv.keep oC (fun e => ownsRow_ne hA.rl.own hA.sv (by decide) _ e rfl), hA.rb.keep oC (fun e => ownsRow_ne hA.rl.own hA.rb (by decide) _ e rfl), hA.oc.keep oC (fun b hb e => by obtain ⟨c0, hc0⟩ := ownsRow_has hA.rl.own e; exact ownsRow_ne hA.oc hc0 (by decide) b hb rfl), hR2, hA.on.trans oC (fun _ _ e => e)⟩, ownsRow_keep (unhide HA).2 oC (fun b hb e => by obtain ⟨c0, hc0⟩ := ownsRow_has hA.rl.own e; exact ownsRow_ne (unhide HA).2 hc0 (by decide) b hb rfl)⟩)
  have HZ := hide (show Z'.length = hn ∧ (∀ z ∈ Z', z.2.length = cols.length) ∧ Z'.map (·.2) = ordD cols st (Z.map (·.2)) ∧ (∀ z ∈ Z', ∀ b, z.1.ownBlock = some b → b < H) from ⟨by rw [hpm.length_eq]; exact (unhide HP).2.2.2.1, fun z hz => (unhide HP).1 z (hpm.mem_iff.mp hz), hzo, fun z hz => (unhide HHL).2.1 z (hpm.mem_iff.mp hz)⟩)
  clear hR2 hpm hzo oC HA t9 tl hA
  generalize wc = w2 at *
  have t11 : w2.cell? ⟨H + 1, 10, none⟩ = some (.bool m.hasL) := (unhide HA2).1.sv.cell 10
  have t12 : w2.cell? ⟨H + 1, 11, none⟩ = some (.int .i64 m.lim) := (unhide HA2).1.sv.cell 11
  have tl := (unhide HA2).1.sv.lt
  obtain ⟨hcap, hnZ⟩ := (unhide HA2).1.rl.room
  rw [(unhide HZ).1] at hcap
  clear hnZ
  obtain ⟨N, hN⟩ : ∃ N, limN st hn = N := ⟨_, rfl⟩
  have HN := hide hN
  have hNle : N ≤ hn := by rw [← hN]; unfold limN; split <;> omega
  have hN2 : N = if m.hasL = true ∧ m.lim < (hn : Int) then m.lim.toNat else hn := by rw [← hN]; unfold limN; rw [(unhide HP).2.2.2.2.1.2.2.1, (unhide HP).2.2.2.2.1.2.2.2.1]
  have HN2 := hide hN2
  clear hN hN2
  obtain ⟨hb, hhb⟩ : ∃ b, m.hasL = b := ⟨_, rfl⟩
  rw [hhb] at t11
  have Hhb := hide hhb
  clear hhb
  go_upto_if 27 with fail
  go_cut [2] from 27 to 39 (fun hx wx => ∃ a9 c9, hx = .slice a9 N c9 ∧ (a9 = ha ∧ c9 = hc ∨ N = 0 ∧ a9 = none ∧ c9 = 0) ∧ w2 = wx)
  case first =>
    cases hb with
    | false =>
      have HE := hide (show N = hn by rw [unhide HN2, if_neg (fun c => by rw [unhide Hhb] at c; cases c.1)])
      go_wp2_with fail
      go_meet
      exact ⟨ha, hc, by rw [unhide HE], .inl ⟨rfl, rfl⟩, rfl⟩
    | true =>
      have hN3 : N = if m.lim < (hn : Int) then m.lim.toNat else hn := by rw [unhide HN2, unhide Hhb]; simp
      by_cases hneg : m.lim < 0
      · have b1 : decide (m.lim < 0) = true := decide_eq_true hneg
        have HE := hide (show N = 0 by rw [hN3, if_pos (by omega)]; omega)
        clear hN3 hneg
        go_wp2_with fail
        go_meet
        exact ⟨none, 0, by rw [unhide HE], .inr ⟨unhide HE, rfl, rfl⟩, rfl⟩
      · have b1 : decide (m.lim < 0) = false := decide_eq_false hneg
        obtain ⟨ln, hln⟩ : ∃ n : Nat, m.lim = (n : Int) := ⟨m.lim.toNat, by omega⟩
        rw [hln] at t12 b1 hN3
        by_cases hlt : ln < hn
        · have b2 : decide ((ln : Int) < (hn : Int)) = true := decide_eq_true (by omega)
          have b2p : (ln : Int) < (hn : Int) := by omega
          have b2n : decide (ln < hn) = true := decide_eq_true hlt
          have HE := hide (show N = ln by rw [hN3, if_pos (by omega)]; omega)
          have b3 : ln ≤ hc := by omega
          clear hN3 hneg hln
          go_wp2_with fail
          go_meet
          exact ⟨ha, hc, by rw [unhide HE], .inl ⟨rfl, rfl⟩, rfl⟩
        · have b2 : decide ((ln : Int) < (hn : Int)) = false := decide_eq_false (by omega)
          have b2p : ¬ (ln : Int) < (hn : Int) := by omega
          have b2n : decide (ln < hn) = false := decide_eq_false hlt
          have HE := hide (show N = hn by rw [hN3, if_neg (by omega)])
          clear hN3 hneg hln
          go_wp2_with fail
          go_meet
          exact ⟨ha, hc, by rw [unhide HE], .inl ⟨rfl, rfl⟩, rfl⟩
  case rest =>
  obtain ⟨a9, c9, rfl, h9, hwx⟩ := hcut
  subst hwx
  have hA2 := (unhide HA2).1
  have HA3 := hide (show PmS w H #[.string tn, .slice ca cn cc, .int .i64 pk, .int .i64 ix] #[.int .i64 m.kind, .string m.table, .slice a2 n2 c2, .int .i64 m.pk, .slice a4 m.names.length c4, .slice a5 n5 c5, .bool m.star, .slice a7 n7 c7, .string m.order, .bool m.desc, .bool m.hasL, .int .i64 m.lim] (.slice ca cn cc) cols lo (.slice a9 N c9) (Z'.take N) (fun b => (Value.slice ha hn hc).ownBlock = some b) w2 ∧ OwnN w2 (.slice a4 m.names.length c4) m.names from ⟨⟨hA2.sc, hA2.sv, hA2.rb, hA2.oc, by
    rcases h9 with ⟨e1, e2⟩ | ⟨e1, e2, e3⟩
    · rw [e1, e2]; exact hA2.rl.prefix (unhide HZ).1.symm hNle
    · rw [e1, e2, e3]; exact RL.nil _ _, hA2.on⟩, (unhide HA2).2⟩)
  have HZ2 := hide (show (Z'.take N).length = N ∧ (∀ z ∈ Z'.take N, z.2.length = cols.length) ∧ (Z'.take N).map (·.2) = (ordD cols st (Z.map (·.2))).take N ∧ (∀ z ∈ Z'.take N, ∀ b, z.1.ownBlock = some b → b < H) ∧ (∀ b, (Value.slice a9 N c9).ownBlock = some b → b < H) from ⟨by rw [List.length_take, (unhide HZ).1]; omega, fun z hz => (unhide HZ).2.1 z (List.mem_of_mem_take hz), by rw [List.map_take, (unhide HZ).2.2.1], fun z hz => (unhide HZ).2.2.2 z (List.mem_of_mem_take hz), fun b hb => by
    rcases h9 with ⟨e1, e2⟩ | ⟨e1, e2, e3⟩
    · exact (unhide HHL).1 b (by rw [e1] at hb; cases ha <;> exact hb)
    · rw [e2] at hb; cases hb⟩)
  generalize hZt : Z'.take N = Z2 at *
  clear hA2 HA2 h9 HZ t11 t12 tl hcap hZt Hhb
  have t4 : w2.cell? ⟨H + 1, 4, none⟩ = some (.slice a4 m.names.length c4) := (unhide HA3).1.sv.cell 4
  have t6 : w2.cell? ⟨H + 1, 6, none⟩ = some (.bool m.star) := (unhide HA3).1.sv.cell 6
  have tl := (unhide HA3).1.sv.lt
  obtain ⟨nl, hnl⟩ : ∃ l, colsD cols st = l := ⟨_, rfl⟩
  have HNLd := hide hnl
  have hnlD : nl = if m.star = true then cols.map (·.1) else m.names := by
    rw [← hnl]; unfold colsD
    rw [(unhide HP).2.2.2.2.1.2.2.2.2.1, (unhide HP).2.2.2.2.1.2.2.2.2.2]
    split
    · next c => rw [(unhide HP).2.2.2.2.2 c]; rfl
    · rfl
  have HnlD := hide hnlD
  clear hnl hnlD
  have HNLq := hide (show ∀ n ∈ nl, 0 ≤ qcol cols n by rw [← unhide HNLd]; exact colsD_in (by rw [(unhide HP).2.2.2.2.1.2.2.2.2.2]; exact (unhide HP).2.2.1))
  obtain ⟨sb, hsb⟩ : ∃ b, m.star = b := ⟨_, rfl⟩
  rw [hsb] at t6
  have Hsb := hide hsb
  clear hsb
  go_upto_if 43 with fail
  go_cut [8, 9] from 43 to 59 (fun nv _ wx => ∃ oa on oc, nv = .slice oa on oc ∧ OwnN wx (.slice oa on oc) nl ∧ (∀ b, (Value.slice oa on oc).ownBlock = some b → (Value.slice a4 m.names.length c4).ownBlock = some b ∨ H ≤ b) ∧ PmS w H #[.string tn, .slice ca cn cc, .int .i64 pk, .int .i64 ix] #[.int .i64 m.kind, .string m.table, .slice a2 n2 c2, .int .i64 m.pk, .slice a4 m.names.length c4, .slice a5 n5 c5, .bool m.star, .slice a7 n7 c7, .string m.order, .bool m.desc, .bool m.hasL, .int .i64 m.lim] (.slice ca cn cc) cols lo (.slice a9 N c9) Z2 (fun b => (Value.slice ha hn hc).ownBlock = some b) wx)
  case first =>
    cases sb with
    | false =>
      have HE := hide (show nl = m.names by rw [unhide HnlD, if_neg (by rw [unhide Hsb]; decide)])
      go_wp2_with fail
      go_meet
      exact ⟨a4, _, c4, rfl, by rw [unhide HE]; exact (unhide HA3).2, fun b hb => .inl hb, (unhide HA3).1⟩
    | true =>
      have HE := hide (show nl = cols.map (·.1) by rw [unhide HnlD, if_pos (unhide Hsb)])
      go_upto_region 13 with fail
      go_loopw [8, 9] (fun nv cv wr => ∃ c : Nat, cv = .int .i64 c ∧ c ≤ cols.length ∧ GR 9 1 w2 nv c ((cols.take c).map (fun x => Value.string x.1)) wr) (fun _ cv _ => cols.length + 1 - (intOf cv).toNat)
      case atStart => exact ⟨0, rfl, Nat.zero_le _, GR.nil _ _ _⟩
      case round =>
        obtain ⟨c, rfl, hcle, hG⟩ := hrel
        have hP1 := (unhide HA3).1.quiet hG.ho
        have s1 : wr.cell? ⟨H, 1, none⟩ = some (.slice ca cn cc) := hP1.sc.cell 1
        have sl := hP1.sc.lt
        have hcn : cn = cols.length := by obtain ⟨_, _, e⟩ := hP1.oc.shape; cases e; rfl
        by_cases hgo : c < cols.length
        · have a1 : decide ((c : Int) < (cn : Int)) = true := decide_eq_true (by omega)
          have a1p : (c : Int) < (cn : Int) := by omega
          obtain ⟨xs, hxs⟩ : ∃ xs, (cols.take c).map (fun x => Value.string x.1) = xs := ⟨_, rfl⟩
          rw [hxs] at hG
          have Hxs := hide hxs
          clear hxs
          obtain ⟨x, hx⟩ := getE hgo
          obtain ⟨gc, ha1, e0, e1⟩ := hP1.oc.at_ hx
          subst ha1
          have own1 := hG.own
          obtain ⟨na, nc, hnv⟩ := ownsRow_shape own1
          subst hnv
          have HGp := hide (fun (v' : Value) (w9 : World) (ob : Obj) h1 h2 h3 => GR.push (v' := v') (w' := w9) (o := ob) (es := [.string x.1]) (n := c + 1) hG h1 h2 h3)
          have Hx := hide hx
          have Hc1 := hide (show c + 1 ≤ cols.length from hgo)
          clear hP1 hG e1 hx hcle hcn
          go_wp2_with (at_builtin; refine wpList_append2 _ rfl _ _ 49 rfl 9 j0 _ 1 16 Tryz.underlying49 hj0 hy0 hy1 hy2 rfl (by decide) _ _ _ rfl (own1.alloc _) ⟨wr.heap.size, 0, none⟩ 1 1 [.string x.1] rfl rfl ?f1 ?f2 ?f3 ?f4 ?_)
          (try case f1 => exact news_ok _ [.string x.1] 9 _ rfl)
          case f2 => first | rfl | (intro u hu; simp at hu; subst hu; rfl)
          case f3 => unfold maxLen; have := unhide Hc1; omega
          case f4 => have := unhide Hc1; omega
          intro v' w9 hown hgrow hwhere
          have HQ := hide (unhide HGp v' w9 _ hown hgrow hwhere)
          obtain ⟨va, vc, hv'⟩ := ownsRow_shape hown
          rw [hv'] at HQ ⊢
          clear hown hgrow hwhere own1 HGp s1 sl e0 hv'
          go_wp2_with fail
          go_roundw
          case rel => exact ⟨c + 1, by go_num, unhide Hc1, by rw [List.take_add_one, unhide Hx, Option.toList_some, List.map_append, unhide Hxs]; exact unhide HQ⟩
          case measure => have := unhide Hc1; simp [intOf]; omega
        · have a1 : decide ((c : Int) < (cn : Int)) = false := decide_eq_false (by omega)
          have a1p : ¬ (c : Int) < (cn : Int) := by omega
          have hce : c = cols.length := by omega
          obtain ⟨na, nc, hnv⟩ := ownsRow_shape hG.own
          subst hnv
          have FF := hide (show ∃ oa on oc, (Value.slice na c nc) = .slice oa on oc ∧ OwnN wr (.slice oa on oc) nl ∧ (∀ b, (Value.slice oa on oc).ownBlock = some b → (Value.slice a4 m.names.length c4).ownBlock = some b ∨ H ≤ b) ∧ PmS w H #[.string tn, .slice ca cn cc, .int .i64 pk, .int .i64 ix] #[.int .i64 m.kind, .string m.table, .slice a2 n2 c2, .int .i64 m.pk, .slice a4 m.names.length c4, .slice a5 n5 c5, .bool m.star, .slice a7 n7 c7, .string m.order, .bool m.desc, .bool m.hasL, .int .i64 m.lim] (.slice ca cn cc) cols lo (.slice a9 N c9) Z2 (fun b => (Value.slice ha hn hc).ownBlock = some b) wr from ⟨na, c, nc, rfl, by
            have h := hG.own
            rw [hce, List.take_length] at h
            rw [unhide HE, hce]
            unfold OwnN
            rw [List.length_map, List.map_map]
            exact h, fun b hb => .inr (by have := hG.hb b hb; have := (unhide HA3).1.rb.lt; omega), hP1⟩)
          clear hG hP1 hce hcn
          go_wp2_with fail
          go_meet
          exact unhide FF
  case rest =>
  obtain ⟨oa, on, oc, rfl, hN4, hB4, hP4⟩ := hcut
  generalize wc = w4 at *
  clear t4 t6 tl HA3
  have RGd : True := trivial
  clear RGd
  have G0 := Has.new w4 #[.int .i64 0, .int .i64 (N : Int), .slice oa on oc, .slice none 0 0] 52
  have oG : Only (fun _ => False) w4 (w4.alloc (.cells #[.int .i64 0, .int .i64 (N : Int), .slice oa on oc, .slice none 0 0] 52)) := (Only.refl _ _).alloc _
  have H5 := hide (show PmS w H #[.string tn, .slice ca cn cc, .int .i64 pk, .int .i64 ix] #[.int .i64 m.kind, .string m.table, .slice a2 n2 c2, .int .i64 m.pk, .slice a4 m.names.length c4, .slice a5 n5 c5, .bool m.star, .slice a7 n7 c7, .string m.order, .bool m.desc, .bool m.hasL, .int .i64 m.lim] (.slice ca cn cc) cols lo (.slice a9 N c9) Z2 (fun b => (Value.slice ha hn hc).ownBlock = some b) (w4.alloc (.cells #[.int .i64 0, .int .i64 (N : Int), .slice oa on oc, .slice none 0 0] 52)) ∧ OwnN (w4.alloc (.cells #[.int .i64 0, .int .i64 (N : Int), .slice oa on oc, .slice none 0 0] 52)) (.slice oa on oc) nl ∧ Has (w4.alloc (.cells #[.int .i64 0, .int .i64 (N : Int), .slice oa on oc, .slice none 0 0] 52)) w4.heap.size #[.int .i64 0, .int .i64 (N : Int), .slice oa on oc, .slice none 0 0] 52 from ⟨hP4.quiet oG, ownsRow_keep hN4 oG (fun _ _ e => e), G0⟩)
  have hGH : H + 2 < w4.heap.size := hP4.rb.lt
  have honl : on = nl.length := by obtain ⟨_, _, e⟩ := ownsRow_shape hN4; cases e; rfl
  have honb : on ≤ 203 := by
    rw [honl, unhide HnlD]
    split
    · rw [List.length_map]; omega
    · omega
  have HB4 := hide hB4
  have Hon := hide honl
  clear hN4 hB4 hP4 G0 oG honl
  go_upto_region 18 with fail
  generalize w4.alloc (.cells #[.int .i64 0, .int .i64 (N : Int), .slice oa on oc, .slice none 0 0] 52) = w5 at *
  generalize hG : w4.heap.size = G at *
  clear hG
  have HGH := hide hGH
  clear hGH
  go_loopw [11, 12, 13] (fun iv _ _ wr => ∃ i ra rn rc Y, iv = .int .i64 (i : Nat) ∧ i ≤ N ∧ Has wr G #[.int .i64 0, .int .i64 (N : Int), .slice oa on oc, .slice ra rn rc] 52 ∧ RL H (.slice ra rn rc) Y wr ∧ Y.map (·.2) = ((Z2.map (·.2)).take i).map (prjR cols nl) ∧ OwnN wr (.slice oa on oc) nl ∧ PmS w H #[.string tn, .slice ca cn cc, .int .i64 pk, .int .i64 ix] #[.int .i64 m.kind, .string m.table, .slice a2 n2 c2, .int .i64 m.pk, .slice a4 m.names.length c4, .slice a5 n5 c5, .bool m.star, .slice a7 n7 c7, .string m.order, .bool m.desc, .bool m.hasL, .int .i64 m.lim] (.slice ca cn cc) cols lo (.slice a9 N c9) Z2 (fun b => (Value.slice ha hn hc).ownBlock = some b) wr) (fun iv _ _ _ => N + 1 - (intOf iv).toNat)
  case atStart => exact ⟨0, none, 0, 0, [], rfl, Nat.zero_le _, (unhide H5).2.2, RL.nil _ _, rfl, (unhide H5).2.1, (unhide H5).1⟩
  case round =>
    obtain ⟨i, ra, rn, rc, Y, rfl, hiN, hG1, hY, hYm, hN1, hP1⟩ := hrel
    clear H5
    have hYl : Y.length = i := by
      have := congrArg List.length hYm
      rw [List.length_map, List.length_map, List.length_take, List.length_map, (unhide HZ2).1] at this
      omega
    have hrn : rn = i := by rw [← hYl]; exact hY.room.2
    subst hrn
    by_cases hi : rn < N
    · have a1 : decide ((rn : Int) < (N : Int)) = true := decide_eq_true (by omega)
      have a1p : (rn : Int) < (N : Int) := by omega
      obtain ⟨z, hz⟩ := getE (l := Z2) (i := rn) (by rw [(unhide HZ2).1]; exact hi)
      have hzm := List.mem_of_getElem? hz
      obtain ⟨pr, hpr⟩ : ∃ l, prjR cols nl z.2 = l := ⟨_, rfl⟩
      have hprl : pr.length = on := by rw [← hpr, unhide Hon]; unfold prjR; rw [List.length_map]
      have HW := hide (And.intro hG1 (And.intro hY (And.intro hYm (And.intro hN1 hP1))))
      have HZI := hide (And.intro hz (And.intro hpr (And.intro hprl (And.intro hYl hzm))))
      clear hG1 hY hYm hN1 hP1 hz hpr hprl hYl hzm
      obtain ⟨wo, hwo⟩ : ∃ x, x = wr := ⟨_, rfl⟩
      rw [← hwo] at HW ⊢
      clear hwo wr
      go_upto_region 22 with fail
      go_loopw [12, 13] (fun rv jv wr => ∃ j : Nat, jv = .int .i64 j ∧ j ≤ on ∧ GR 152 3 wo rv j (vcs (pr.take j)) wr) (fun _ jv _ => on + 1 - (intOf jv).toNat)
      case atStart => exact ⟨0, rfl, Nat.zero_le _, GR.nil _ _ _⟩
      case round =>
        obtain ⟨j, rfl, hjn, hg⟩ := hrel
        by_cases hj : j < on
        · have b1 : decide ((j : Int) < (on : Int)) = true := decide_eq_true (by omega)
          have b1p : (j : Int) < (on : Int) := by omega
          obtain ⟨x, hx⟩ := getE (l := nl) (i := j) (by rw [← unhide Hon]; exact hj)
          have hN2 := ownsRow_keep (unhide HW).2.2.2.1 hg.ho (fun _ _ e => e)
          obtain ⟨no, hoa, x0⟩ := strs_at hN2 hx
          have hq0 := (unhide HNLq) x (List.mem_of_getElem? hx)
          have hqr := qcol_rng cols x
          obtain ⟨mc, hm⟩ : ∃ m' : Nat, qcol cols x = (m' : Int) := ⟨(qcol cols x).toNat, by omega⟩
          have hP2 := (unhide HW).2.2.2.2.quiet hg.ho
          have hzz := (unhide HZI).1
          have hzm := (unhide HZI).2.2.2.2
          have hzl := (unhide HZ2).2.1 z hzm
          obtain ⟨y, hy⟩ := getE (l := z.2) (i := mc) (by omega)
          have O1 := (hP2.rl.row z hzm).1
          obtain ⟨za, zc, hzs⟩ := O1.shape
          obtain ⟨zn, hzn⟩ : ∃ n, z.2.length = n := ⟨_, rfl⟩
          rw [hzn] at hzs
          rw [hzs] at O1
          obtain ⟨zg, hza, v0, v1, v2⟩ := O1.at_ hy
          subst hza
          have own2 := hP2.rl.own
          obtain ⟨hg2, hha⟩ : ∃ rg, a9 = some ⟨rg, 0, none⟩ := by
            rcases own2.2 with ⟨he, h0⟩ | ⟨g', cap', cur, he, _⟩
            · have := (List.getElem?_eq_some_iff.mp hzz).1; omega
            · have := he
              simp at this
              exact ⟨g', this.1⟩
          have hcx : wr.cell? ⟨hg2, rn, none⟩ = some (.slice (some ⟨zg, 0, none⟩) zn zc) := by
            have hc0 := World.ownsRow.cells own2 (g := hg2) (by rw [hha]; rfl) rn z.1 (by rw [List.getElem?_map, hzz]; rfl)
            rw [addr_add, hzs] at hc0
            simpa using hc0
          have s0 : wr.cell? ⟨H, 0, none⟩ = some (.string tn) := hP2.sc.cell 0
          have s1 : wr.cell? ⟨H, 1, none⟩ = some (.slice ca cn cc) := hP2.sc.cell 1
          have s2 : wr.cell? ⟨H, 2, none⟩ = some (.int .i64 pk) := hP2.sc.cell 2
          have s3 : wr.cell? ⟨H, 3, none⟩ = some (.int .i64 ix) := hP2.sc.cell 3
          have oD : Only (fun _ => False) wr wr.drew := (Only.refl _ wr).drew
          have C1 := smcolOf_any (tn := tn) (pk := pk) (ix := ix) (hP2.oc.keep oD (fun _ _ e => e)) (by omega) x
          unfold schU at C1
          rw [hm] at C1
          have C1 := hide C1
          have hmz : (mc : Int) < (zn : Int) := by omega
          have hyy : pr[j]? = some y := by
            rw [← (unhide HZI).2.1]
            unfold prjR
            rw [List.getElem?_map, hx]
            show some (rAt z.2 (qcol cols x)) = some y
            rw [hm, rAt_ky]
            unfold kyR
            rw [hy]
            rfl
          have own1 := hg.own
          obtain ⟨va, vc, hrv⟩ := ownsRow_shape own1
          subst hrv
          have hgb := hg.hb
          have szo := hg.ho.size
          have hltq : ∀ b, b < wo.heap.size → ∀ {W : World} {o : Nat} {v : Value}, Only (fun k => (Value.slice va j vc).ownBlock = some k) wr W → wr.cell? ⟨b, o, none⟩ = some v → W.cell? ⟨b, o, none⟩ = some v := fun b hb W o v ho h => cell_keep h ho (fun e => by have := hgb b e; omega)
          have bH : H < wo.heap.size := (unhide HW).2.2.2.2.sc.lt
          have bno : no < wo.heap.size := ownsRow_lt (unhide HW).2.2.2.1 no (by rw [hoa]; rfl)
          have bhg : hg2 < wo.heap.size := ownsRow_lt (unhide HW).2.2.2.2.rl.own hg2 (by rw [hha]; rfl)
          have bzg : zg < wo.heap.size := ownsRow_lt ((unhide HW).2.2.2.2.rl.row z hzm).1 zg (by rw [hzs]; rfl)
          have HSB := hide (show ∀ W, Only (fun k => (Value.slice va j vc).ownBlock = some k) wr W → (W.cell? ⟨hg2, rn, none⟩ = some (.slice (some ⟨zg, 0, none⟩) zn zc) ∧ W.cell? ⟨H, 0, none⟩ = some (.string tn) ∧ W.cell? ⟨H, 1, none⟩ = some (.slice ca cn cc) ∧ W.cell? ⟨H, 2, none⟩ = some (.int .i64 pk) ∧ W.cell? ⟨H, 3, none⟩ = some (.int .i64 ix) ∧ W.cell? ⟨no, j, none⟩ = some (.string x) ∧ W.cell? ⟨zg, mc * 3, none⟩ = some (.bool y.str) ∧ W.cell? ⟨zg, mc * 3 + 1, none⟩ = some (.int .i64 y.i) ∧ W.cell? ⟨zg, mc * 3 + 2, none⟩ = some (.string y.s)) from fun W o => ⟨hltq hg2 bhg o hcx, hltq H bH o s0, hltq H bH o s1, hltq H bH o s2, hltq H bH o s3, hltq no bno o x0, hltq zg bzg o v0, hltq zg bzg o v1, hltq zg bzg o v2⟩)
          have hsb0 := unhide HSB wr (Only.refl _ _)
          have HGp := hide (fun (w6 : World) (o6 : Only (fun _ => False) wr w6) (v' : Value) (w9 : World) (ob : Obj) h1 h2 h3 => GR.push (v' := v') (w' := w9) (o := ob) (es := [.bool y.str, .int .i64 y.i, .string y.s]) (n := j + 1) (hg.far o6) h1 h2 h3)
          have HYY := hide hyy
          have Hoa := hide hoa
          have Hha := hide hha
          rw [hoa, hha]
          have HOW := hide own1
          clear hltq bH bno bhg bzg hP2 O1 own2 hq0 hqr hx hm hy hzl hN2 hyy hzz hzm hzs hzn hha hoa hg hgb szo own1 oD
          go_upto_region 24 with fail
          refine wp_region_held_drew (S := (fun w' => w'.cell? ⟨hg2, rn, none⟩ = some (.slice (some ⟨zg, 0, none⟩) zn zc) ∧ w'.cell? ⟨H, 0, none⟩ = some (.string tn) ∧ w'.cell? ⟨H, 1, none⟩ = some (.slice ca cn cc) ∧ w'.cell? ⟨H, 2, none⟩ = some (.int .i64 pk) ∧ w'.cell? ⟨H, 3, none⟩ = some (.int .i64 ix) ∧ w'.cell? ⟨no, j, none⟩ = some (.string x) ∧ w'.cell? ⟨zg, mc * 3, none⟩ = some (.bool y.str) ∧ w'.cell? ⟨zg, mc * 3 + 1, none⟩ = some (.int .i64 y.i) ∧ w'.cell? ⟨zg, mc * 3 + 2, none⟩ = some (.string y.s))) (by kernel_rfl) hsb0 (fun hH0 => ?_)
          refine takeH 0 76 (v := ?vpb1) rfl rfl (by kernel_rfl) (by kernel_rfl) (by kernel_rfl) (fun _ _ _ h => h) (Or.inl ⟨by rfl, ?hpb1⟩) hH0 ?rpb1
          case hpb1 => (intro w hSw; clear hSw; go_simp; (try with_reducible rfl))
          case rpb1 =>
          try simp only [Act.put, List.setIfInBounds_toArray, List.set_cons_zero, List.set_cons_succ]
          refine takeH 1 77 (v := ?vpb2) rfl rfl (by kernel_rfl) (by kernel_rfl) (by kernel_rfl) (fun _ _ _ h => h) (Or.inl ⟨by rfl, ?hpb2⟩) hH0 ?rpb2
          case hpb2 => (intro w hSw; clear hSw; go_simp; (try with_reducible rfl))
          case rpb2 =>
          try simp only [Act.put, List.setIfInBounds_toArray, List.set_cons_zero, List.set_cons_succ]
          refine takeH 2 78 (v := ?vpb3) rfl rfl (by kernel_rfl) (by kernel_rfl) (by kernel_rfl) (fun _ _ _ h => h) (Or.inl ⟨by rfl, ?hpb3⟩) hH0 ?rpb3
          case hpb3 => (intro w hSw; clear hSw; go_simp; (try with_reducible rfl))
          case rpb3 =>
          try simp only [Act.put, List.setIfInBounds_toArray, List.set_cons_zero, List.set_cons_succ]
          refine takeH 3 79 (v := ?vpb4) rfl rfl (by kernel_rfl) (by kernel_rfl) (by kernel_rfl) (fun _ _ _ h => h) (Or.inl ⟨by rfl, ?hpb4⟩) hH0 ?rpb4
          case hpb4 => (intro w hSw; clear hSw; go_simp; (try with_reducible rfl))
          case rpb4 =>
          try simp only [Act.put, List.setIfInBounds_toArray, List.set_cons_zero, List.set_cons_succ]
          refine takeH 4 80 (v := ?vpb5) rfl rfl (by kernel_rfl) (by kernel_rfl) (by kernel_rfl) (fun _ _ _ h => h) (Or.inl ⟨by rfl, ?hpb5⟩) hH0 ?rpb5
          case hpb5 => (intro w hSw; obtain ⟨s0, s1, s2, s3, s4, s5, s6, s7, s8⟩ := hSw; go_simp; (try with_reducible rfl))
          case rpb5 =>
          try simp only [Act.put, List.setIfInBounds_toArray, List.set_cons_zero, List.set_cons_succ]
          refine takeH 5 81 (v := ?vpb6) rfl rfl (by kernel_rfl) (by kernel_rfl) (by kernel_rfl) (fun _ _ _ h => h) (Or.inl ⟨by rfl, ?hpb6⟩) hH0 ?rpb6
          case hpb6 => (intro w hSw; obtain ⟨s0, s1, s2, s3, s4, s5, s6, s7, s8⟩ := hSw; go_simp; (try with_reducible rfl))
          case rpb6 =>
          try simp only [Act.put, List.setIfInBounds_toArray, List.set_cons_zero, List.set_cons_succ]
          refine takeH 6 82 (v := ?vpb7) rfl rfl (by kernel_rfl) (by kernel_rfl) (by kernel_rfl) (fun _ _ _ h => h) (Or.inl ⟨by rfl, ?hpb7⟩) hH0 ?rpb7
          case hpb7 => (intro w hSw; clear hSw; go_simp; (try with_reducible rfl))
          case rpb7 =>
          try simp only [Act.put, List.setIfInBounds_toArray, List.set_cons_zero, List.set_cons_succ]
          refine takeH 7 83 (v := ?vpb8) rfl rfl (by kernel_rfl) (by kernel_rfl) (by kernel_rfl) (fun _ _ _ h => h) (Or.inl ⟨by rfl, ?hpb8⟩) hH0 ?rpb8
          case hpb8 => (intro w hSw; clear hSw; go_simp; (try with_reducible rfl))
          case rpb8 =>
          try simp only [Act.put, List.setIfInBounds_toArray, List.set_cons_zero, List.set_cons_succ]
          refine takeH 8 84 (v := ?vpb9) rfl rfl (by kernel_rfl) (by kernel_rfl) (by kernel_rfl) (fun _ _ _ h => h) (Or.inl ⟨by rfl, ?hpb9⟩) hH0 ?rpb9
          case hpb9 => (intro w hSw; clear hSw; go_simp; (try with_reducible rfl))
          case rpb9 =>
          try simp only [Act.put, List.setIfInBounds_toArray, List.set_cons_zero, List.set_cons_succ]
          refine takeH 9 85 (v := ?vpb10) rfl rfl (by kernel_rfl) (by kernel_rfl) (by kernel_rfl) (fun _ _ _ h => h) (Or.inl ⟨by rfl, ?hpb10⟩) hH0 ?rpb10
          case hpb10 => (intro w hSw; obtain ⟨s0, s1, s2, s3, s4, s5, s6, s7, s8⟩ := hSw; go_simp; (try with_reducible rfl))
          case rpb10 =>
          try simp only [Act.put, List.setIfInBounds_toArray, List.set_cons_zero, List.set_cons_succ]
          refine callH 10 (by kernel_rfl) rfl 86 rfl rfl 273 Tryz.func273 (by kernel_rfl) (by kernel_rfl) #[.tmp 81, .tmp 85] #[79, 9] rfl #[.agg #[.string tn, .slice ca cn cc, .int .i64 pk, .int .i64 ix], .string x] (by simp [Act.eval]) (R := fun v w' => v = .int .i64 (mc : Int) ∧ Only (fun _ => False) wr.drew w') ((unhide C1).mono (by rintro en w' ⟨rfl, o⟩; exact ⟨_, rfl, rfl, o⟩)) ?kcc
          case kcc =>
          rintro _ w6 ⟨rfl, o6⟩
          have oE : Only (fun _ => False) wr w6 := (Only.refl _ wr).drew.trans o6 (fun _ _ e => e)
          have S6 := unhide HSB w6 (oE.mono (fun _ _ e => e.elim))
          refine ⟨S6, ?_⟩
          try simp only [Act.put, List.setIfInBounds_toArray, List.set_cons_zero, List.set_cons_succ]
          refine takeH 11 87 (v := ?vpb11) rfl rfl (by kernel_rfl) (by kernel_rfl) (by kernel_rfl) (fun _ _ _ h => h) (Or.inl ⟨by rfl, ?hpb11⟩) S6 ?rpb11
          case hpb11 => (intro w hSw; clear hSw; go_simp; (try with_reducible rfl))
          case rpb11 =>
          try simp only [Act.put, List.setIfInBounds_toArray, List.set_cons_zero, List.set_cons_succ]
          refine takeH 12 88 (v := ?vpb12) rfl rfl (by kernel_rfl) (by kernel_rfl) (by kernel_rfl) (fun _ _ _ h => h) (Or.inl ⟨by rfl, ?hpb12⟩) S6 ?rpb12
          case hpb12 => (intro w hSw; obtain ⟨s0, s1, s2, s3, s4, s5, s6, s7, s8⟩ := hSw; go_simp; (try with_reducible rfl))
          case rpb12 =>
          try simp only [Act.put, List.setIfInBounds_toArray, List.set_cons_zero, List.set_cons_succ]
          have S7 := unhide HSB (w6.alloc (.cells #[.bool y.str, .int .i64 y.i, .string y.s] 152)) ((oE.mono (fun _ _ e => e.elim)).alloc _)
          refine soneH 13 (by kernel_rfl) rfl 89 rfl rfl (v := .slice (some ⟨w6.heap.size, 0, none⟩) 1 1) (w1 := (w6.alloc (.cells #[.bool y.str, .int .i64 y.i, .string y.s] 152))) ?bd ?kbd
          case bd => (go_simp; (try with_reducible rfl))
          case kbd =>
          refine ⟨S7, ?_⟩
          try simp only [Act.put, List.setIfInBounds_toArray, List.set_cons_zero, List.set_cons_succ]
          have own6 := ownsRow_keep (unhide HOW) oE (fun _ _ e => e)
          refine sappH 14 (by kernel_rfl) rfl 90 rfl rfl _ _ _ rfl 0 152 k0 _ 3 32 Tryz.underlying95 hk0 hx0 hx1 hx2 rfl (by omega) (.slice va j vc) j (vcs (pr.take j)) rfl (own6.alloc _) ⟨w6.heap.size, 0, none⟩ 1 1 [.bool y.str, .int .i64 y.i, .string y.s] rfl rfl (World.news_of_block (cs := #[.bool y.str, .int .i64 y.i, .string y.s]) (t := 152) (fr := (0, 0)) (heap_alloc_new w6 _)) (by simp [Value.oneCell']) (by omega) (by unfold maxLen; omega) (by omega) (by simp) (w6.heap.size + 1) (by simp) ?apx
          case apx =>
          intro gg cap3 w9 hown1 hgrow hat hlt3
          have HQ := hide (unhide HGp w6 oE (.slice (some ⟨gg, 0, none⟩) (j + 1) cap3) w9 _ hown1 hgrow (fun b hb => by
            have hb' : gg = b := by simpa [Value.ownBlock] using hb
            subst hb'
            exact hat))
          have S9 := unhide HSB w9 (((oE.mono (T := fun k => (Value.slice va j vc).ownBlock = some k) (fun _ _ e => e.elim)).alloc (.cells #[.bool y.str, .int .i64 y.i, .string y.s] 152)).grown hgrow (fun b hb _ => hb))
          refine ⟨S9, ?_⟩
          try simp only [Act.put, List.setIfInBounds_toArray, List.set_cons_zero, List.set_cons_succ]
          refine takeH 15 12 (v := ?vpb13) rfl rfl (by kernel_rfl) (by kernel_rfl) (by kernel_rfl) (fun _ _ _ h => h) (Or.inl ⟨by rfl, ?hpb13⟩) S9 ?rpb13
          case hpb13 => (intro w hSw; clear hSw; go_simp; (try with_reducible rfl))
          case rpb13 =>
          try simp only [Act.put, List.setIfInBounds_toArray, List.set_cons_zero, List.set_cons_succ]
          refine wpAnyH_done (by kernel_rfl) ?_ _
          clear hown1 hgrow hat hlt3 S9 S7 S6 own6 oE o6 HSB hsb0 C1 hcx s0 s1 s2 s3 x0 v0 v1 v2 HGp HOW
          go_wp2_with fail
          go_roundw
          case rel => exact ⟨j + 1, by go_num, by omega, by rw [List.take_add_one, unhide HYY, Option.toList_some, vcs_app]; exact unhide HQ⟩
          case measure => simp [intOf]; omega
        · have b1 : decide ((j : Int) < (on : Int)) = false := decide_eq_false (by omega)
          have b1p : ¬ (j : Int) < (on : Int) := by omega
          have hje : j = on := by omega
          subst hje
          obtain ⟨va, vc, hrv⟩ := ownsRow_shape hg.own
          subst hrv
          have hV : OwnV wr (.slice va j vc) pr := by have h := hg.own; rw [List.take_of_length_le (by rw [(unhide HZI).2.2.1]; exact Nat.le_refl _)] at h; unfold OwnV; rw [(unhide HZI).2.2.1]; exact h
          have G2 := (unhide HW).1.keep hg.ho (fun e => e)
          have g3 : wr.cell? ⟨G, 3, none⟩ = some (.slice ra rn rc) := G2.cell 3
          have g3f := G2.free 3
          have gl := G2.lt
          have Y1 := (unhide HW).2.1.quiet hg.ho
          have own1 := Y1.own
          have hYl := (unhide HZI).2.2.2.1
          rw [hYl] at own1
          have hr9 : rn ≤ 8 := by omega
          have neG : ∀ b, (Value.slice ra rn rc).ownBlock = some b → b ≠ G := fun b hb => ownsRow_ne own1 G2 (by decide) b hb
          have hP2 := (unhide HW).2.2.2.2.quiet hg.ho
          have hN2 := ownsRow_keep (unhide HW).2.2.2.1 hg.ho (fun _ _ e => e)
          have HPP := hide (show ∀ (v' : Value) (w9 : World) (ob : Obj), w9.ownsRow 0 95 1 v' (rn + 1) (Y.map (·.1) ++ [.slice va j vc]) → (wr.alloc ob).grownBy w9 (Value.slice ra rn rc).ownBlock → (∀ b, v'.ownBlock = some b → (Value.slice ra rn rc).ownBlock = some b ∨ b = wr.heap.size + 1) → ∃ ra' rn' rc' Y', v' = .slice ra' rn' rc' ∧ Has (w9.setCell ⟨G, 3, none⟩ v') G #[.int .i64 0, .int .i64 (N : Int), .slice oa j oc, .slice ra' rn' rc'] 52 ∧ RL H (.slice ra' rn' rc') Y' (w9.setCell ⟨G, 3, none⟩ v') ∧ Y'.map (·.2) = ((Z2.map (·.2)).take (rn + 1)).map (prjR cols nl) ∧ OwnN (w9.setCell ⟨G, 3, none⟩ v') (.slice oa j oc) nl ∧ PmS w H #[.string tn, .slice ca cn cc, .int .i64 pk, .int .i64 ix] #[.int .i64 m.kind, .string m.table, .slice a2 n2 c2, .int .i64 m.pk, .slice a4 m.names.length c4, .slice a5 n5 c5, .bool m.star, .slice a7 n7 c7, .string m.order, .bool m.desc, .bool m.hasL, .int .i64 m.lim] (.slice ca cn cc) cols lo (.slice a9 N c9) Z2 (fun b => (Value.slice ha hn hc).ownBlock = some b) (w9.setCell ⟨G, 3, none⟩ v') ∧ w9.cell? ⟨G, 3, none⟩ = some (.slice ra rn rc) ∧ w9.frozen? ⟨G, 3, none⟩ = false from by
            intro v' w9 ob h1 h2 h3
            have hgl := (unhide HW).1.lt
            have hgs := hg.ho.size
            have hGH := unhide HGH
            rw [← hYl] at h1
            obtain ⟨p1, p2⟩ := Y1.push hV (fun b hb => by have := hg.hb b hb; omega) (fun z' hz' b hb e => by
              have h5 := hg.hb b e
              have h6 := ownsRow_lt ((unhide HW).2.1.row z' hz').1 b hb
              omega) (by omega) h1 h2 h3
            obtain ⟨ra', rc', hvs⟩ := ownsRow_shape h1
            subst hvs
            have oS : Only (fun b => b = G) w9 (w9.setCell ⟨G, 3, none⟩ (.slice ra' (Y.length + 1) rc')) := only1 _ _
            have G9 := G2.keep p2 (fun h => neG G h rfl)
            have P9 := hP2.keep p2 (hP2.ap own1 (by decide) (by decide) (by decide) (by decide) (.inr (fun b hb e => by have h5 := Y1.nb b hb; have h6 := (unhide HZ2).2.2.2.2 b e; omega)) (by decide)) (fun b hl h => by have h5 := Y1.nb b h; omega)
            have N9 := ownsRow_keep hN2 p2 (fun b hb h => by obtain ⟨c0, hc0⟩ := ownsRow_has hN2 hb; exact ownsRow_ne own1 hc0 (by decide) b h rfl)
            refine ⟨ra', _, rc', Y ++ [(.slice va j vc, pr)], rfl, G9.setCell 3 _, ?_, ?_, ?_, ?_, G9.cell 3, G9.free 3⟩
            · exact p1.keep oS (fun b hb (e : b = G) => ownsRow_ne p1.own G9 (by decide) b hb e) (fun z' hz' b hb (e : b = G) => ownsRow_ne (p1.row z' hz').1 G9 (by decide) b hb e)
            · rw [List.map_append, (unhide HW).2.2.1, List.take_add_one, List.getElem?_map, (unhide HZI).1]
              simp [(unhide HZI).2.1]
            · exact ownsRow_keep N9 oS (fun b hb (e : b = G) => ownsRow_ne N9 G9 (by decide) b hb e)
            · refine P9.keep oS (fun b hb (e : b = G) => ?_) (fun b hl (e : b = G) => by omega)
              subst e
              rcases hb with h | h | h | h | h | ⟨z', hz', h⟩
              · omega
              · omega
              · omega
              · obtain ⟨c0, hc0⟩ := ownsRow_has P9.oc h
                exact Has.ne hc0 G9 (by decide) rfl
              · exact ownsRow_ne P9.rl.own G9 (by decide) _ h rfl
              · exact ownsRow_ne (P9.rl.row z' hz').1 G9 (by decide) _ h rfl)
          clear Y1 hV G2 hg neG hYl hP2 hN2
          go_wp2_with (at_builtin; refine wpList_append2 _ rfl _ _ 50 rfl 95 i0 _ 1 24 Tryz.underlying50 hi0 hz0 hz1 hz2 rfl (by decide) _ _ _ rfl (own1.alloc _) ⟨wr.heap.size, 0, none⟩ 1 1 [.slice va j vc] rfl rfl ?f1 ?f2 ?f3 ?f4 ?_)
          (try case f1 => exact news_ok _ [.slice va j vc] 95 _ rfl)
          case f2 => first | rfl | (intro u hu; simp at hu; subst hu; rfl)
          case f3 => unfold maxLen; omega
          case f4 => omega
          intro v' w9 hown hgrow hwhere
          obtain ⟨ra', rn', rc', Y', hv', q1, q2, q3, q4, q5, q8, q9⟩ := unhide HPP v' w9 _ hown hgrow hwhere
          subst hv'
          have gl9 : G < w9.heap.size := cell_lt q8
          have HQ := hide (And.intro q1 (And.intro q2 (And.intro q3 (And.intro q4 q5))))
          clear q1 q2 q3 q4 q5 hown hgrow hwhere HPP own1 g3 g3f gl HW HZI
          go_wp2_with fail
          go_roundw
          case rel => exact ⟨rn + 1, ra', rn', rc', Y', by go_num, by omega, (unhide HQ).1, (unhide HQ).2.1, (unhide HQ).2.2.1, (unhide HQ).2.2.2.1, (unhide HQ).2.2.2.2⟩
          case measure => simp [intOf]; omega
    · have a1 : decide ((rn : Int) < (N : Int)) = false := decide_eq_false (by omega)
      have a1p : ¬ (rn : Int) < (N : Int) := by omega
      have hiE : rn = N := by omega
      subst hiE
      have g0 : wr.cell? ⟨G, 0, none⟩ = some (.int .i64 0) := hG1.cell 0
      have g1 : wr.cell? ⟨G, 1, none⟩ = some (.int .i64 (rn : Int)) := hG1.cell 1
      have g2 : wr.cell? ⟨G, 2, none⟩ = some (.slice oa on oc) := hG1.cell 2
      have g3 : wr.cell? ⟨G, 3, none⟩ = some (.slice ra rn rc) := hG1.cell 3
      have gl := hG1.lt
      have r0 : wr.cell? ⟨H + 2, 0, none⟩ = some (.int .i64 0) := hP1.rb.cell 0
      have r1 : wr.cell? ⟨H + 2, 1, none⟩ = some (.int .i64 0) := hP1.rb.cell 1
      have r2 : wr.cell? ⟨H + 2, 2, none⟩ = some (.slice none 0 0) := hP1.rb.cell 2
      have r3 : wr.cell? ⟨H + 2, 3, none⟩ = some (.slice none 0 0) := hP1.rb.cell 3
      have rf0 := hP1.rb.free 0
      have rf1 := hP1.rb.free 1
      have rf2 := hP1.rb.free 2
      have rf3 := hP1.rb.free 3
      have rl := hP1.rb.lt
      have H5 := has_setAll [.int .i64 0, .int .i64 (rn : Int), .slice oa on oc, .slice ra rn rc] hP1.rb rfl
      have O5 := only_setW (H + 2) [.int .i64 0, .int .i64 (rn : Int), .slice oa on oc, .slice ra rn rc] 0 wr
      have hz2 := unhide HZ2
      have hGH := unhide HGH
      have hR0 : R = ⟨0, (rn : Int), nl, (Z2.map (·.2)).map (prjR cols nl)⟩ := by
        rw [← unhide HRd]
        unfold prjD
        rw [List.length_map, (unhide HP).2.2.2.1, unhide HN, unhide HNLd, hz2.2.2.1]
      have hYm2 : Y.map (·.2) = (Z2.map (·.2)).map (prjR cols nl) := by rw [hYm, List.take_of_length_le (by rw [List.length_map, hz2.1]; exact Nat.le_refl _)]
      have FF := hide (And.intro H5 (show PmP w (.slice ha hn hc) (.slice a4 m.names.length c4) R (.returned (.agg #[.int .i64 0, .int .i64 (rn : Int), .slice oa on oc, .slice ra rn rc])) (setW (H + 2) [.int .i64 0, .int .i64 (rn : Int), .slice oa on oc, .slice ra rn rc] 0 wr) from (by
        rw [hR0]
        refine ⟨oa, on, oc, ra, rn, rc, rfl, ⟨ownsRow_keep hN1 O5 (fun b hb (e : b = H + 2) => ownsRow_ne hN1 hP1.rb (by decide) b hb e), Y, ?_, hYm2⟩, fun b hb => ?_, ?_⟩
        · rw [hH]
          exact hY.keep O5 (fun b hb (e : b = H + 2) => ownsRow_ne hY.own hP1.rb (by decide) b hb e) (fun z hz b hb (e : b = H + 2) => ownsRow_ne (hY.row z hz).1 hP1.rb (by decide) b hb e)
        · rw [hH]; exact unhide HB4 b hb
        · exact hP1.on.lateS O5 (fun b (e : b = H + 2) => by omega))))
      simp only [setW, Nat.zero_add, Nat.reduceAdd] at FF
      have e22 : H + 2 = H + 1 + 1 := rfl
      rw [e22] at FF
      clear e22
      clear H5 O5 hG1 hY hYm hN1 hP1 hR0 hz2 hYm2 hYl
      go_wp2_with fail
      refine bodyPost_ret (sres_result rfl _ rfl (unhide FF).1 rfl) rfl ?_
      exact (unhide FF).2
end
end Go.Proofs.Qxb6500412aGreat
