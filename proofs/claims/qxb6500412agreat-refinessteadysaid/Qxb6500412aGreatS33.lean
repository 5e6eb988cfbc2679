/-
  OWN WORK. QUERY: fetch (written by tools/gen_s33.py).
-/
import Derived.Test.Qxb6500412aGreatS32
namespace Go.Proofs.Qxb6500412aGreat
open Go.RowKit Go.PlainAid
set_option linter.unusedSimpArgs false
set_option linter.unusedVariables false

/-- What fetch answers. -/
def FtP (q : Gnd) (w : World) (k g x : Nat) (M : Mu) (K : Nat → Prop) (s : Int) (nm : ByteArray) (kd : Int) (hit : List (List Vl)) (e : Ending) (w' : World) : Prop :=
  ∃ ra rn rc Z, e = .returned (.tuple #[.slice ra rn rc, .int .i64 (M.tkE s nm 1)]) ∧ RL w.heap.size (.slice ra rn rc) Z w' ∧ Z.map (·.2) = (if M.tkE s nm 1 = 0 then hit else []) ∧ QR q w' k g x (if M.tkE s nm 1 = 0 then M.setL s.toNat nm 1 else M) K kd ∧ Only (fun b => q.S b ∨ K b ∨ b = k) w w'
/-- The rows fetched. -/
def FqC (q : Gnd) (w0 : World) (k g x : Nat) (M : Mu) (K : Nat → Prop) (s : Int) (nm : ByteArray) (kd : Int) (F : List (List Vl)) (rv ev : Value) (wx : World) : Prop :=
  ∃ ra rn rc Z, rv = .slice ra rn rc ∧ ev = .int .i64 (M.tkE s nm 1) ∧ RL w0.heap.size (.slice ra rn rc) Z wx ∧ Z.map (·.2) = (if M.tkE s nm 1 = 0 then F else []) ∧ QR q wx k g x (if M.tkE s nm 1 = 0 then M.setL s.toNat nm 1 else M) K kd ∧ Only (fun b => q.S b ∨ K b) w0 wx
/-- The schema's and the statement's copies, the plan, the lists. -/
structure FqI (H P : Nat) (sc sv pl : Array Value) (cv : Value) (cols : List Cl) (v8 : Value) (wh : List Cm) (wr : World) : Prop where
  sc : Has wr H sc 79
  sv : Has wr (H + 1) sv 173
  pl : Has wr P pl 302
  oc : OwnC wr cv cols
  o8 : OwnM wr v8 wh
section
variable {q : Gnd} {w wr wx : World} {k g x : Nat} {M : Mu} {K : Nat → Prop} {last : Int} {s : Int} {S : Sq} {st : St} {u : Tb} {ca : Option Addr} {cn cc : Nat} {tn : ByteArray} {H P : Nat} {sc sv pl : Array Value} {cv v8 : Value} {cols : List Cl} {wh : List Cm}
theorem FqI.keep {B : Nat → Prop} (h : FqI H P sc sv pl cv cols v8 wh wr) (o : Only B wr wx) (hB : ∀ b, b = H ∨ b = H + 1 ∨ b = P ∨ cv.ownBlock = some b ∨ v8.ownBlock = some b → ¬ B b) : FqI H P sc sv pl cv cols v8 wh wx :=
  ⟨h.sc.keep o (hB _ (.inl rfl)), h.sv.keep o (hB _ (.inr (.inl rfl))), h.pl.keep o (hB _ (.inr (.inr (.inl rfl)))), h.oc.keep o (fun b hb => hB b (.inr (.inr (.inr (.inl hb))))), h.o8.keep o (fun b hb => hB b (.inr (.inr (.inr (.inr hb)))))⟩
theorem FqI.quiet (h : FqI H P sc sv pl cv cols v8 wh wr) (o : Only (fun _ => False) wr wx) : FqI H P sc sv pl cv cols v8 wh wx := h.keep o (fun _ _ e => e)
/-- What Lookup answers, by the state. -/
theorem qlook_no (R : RX q w g x M K) (nm : ByteArray) (key : Vl) (hkw : key.wf) (h0 : M.tkE s nm 1 ≠ 0) : Calls Tryz.prog 247 #[.pointer (some ⟨g, 0, none⟩), .int .i64 s, .string nm, vlA key] w fun e w' => ∃ v, e = .returned v ∧ v = .tuple #[.slice none 0 0, .int .i64 (M.tkE s nm 1)] ∧ RX q w' g x M K ∧ Only (fun b => q.S b ∨ K b) w w' :=
  (rlookup_any R s nm key hkw).mono (by
    rintro e w1 (⟨z, rfl, hz, ht, r, o⟩ | ⟨v, rfl, ht, _⟩)
    · rw [Mu.tkE_iff] at ht
      exact ⟨_, rfl, by rw [ht], r, o⟩
    · rw [Mu.tkE_iff] at ht
      exact absurd ht.symm h0)
theorem qlook_ok (R : RX q w g x M K) (nm : ByteArray) (key : Vl) (hkw : key.wf) (h0 : M.tkE s nm 1 = 0) : Calls Tryz.prog 247 #[.pointer (some ⟨g, 0, none⟩), .int .i64 s, .string nm, vlA key] w fun e w' => ∃ v, e = .returned v ∧ ∃ va vc, v = .tuple #[.slice va (lkpD (M.see s.toNat) nm key).1.length vc, .int .i64 (lkpD (M.see s.toNat) nm key).2] ∧ OwnV w' (.slice va (lkpD (M.see s.toNat) nm key).1.length vc) (lkpD (M.see s.toNat) nm key).1 ∧ Newer w (.slice va (lkpD (M.see s.toNat) nm key).1.length vc) ∧ RX q w' g x (M.setL s.toNat nm 1) K ∧ Only (fun b => q.S b ∨ K b) w w' :=
  (rlookup_any R s nm key hkw).mono (by
    rintro e w1 (⟨z, rfl, hz, ht, r, o⟩ | ⟨v, rfl, ht, hv, hn, r, o⟩)
    · rw [Mu.tkE_iff, h0] at ht
      exact absurd ht hz
    · obtain ⟨va, vc, rfl⟩ := hv.shape
      exact ⟨_, rfl, va, vc, rfl, hv, hn, r, o⟩)
theorem qscan_no (R : RX q w g x M K) (nm : ByteArray) (col : Int) (lh hh : Bool) (lv hv : Vl) (hlw : lv.wf) (hhw : hv.wf) (h0 : M.tkE s nm 1 ≠ 0) : Calls Tryz.prog 248 #[.pointer (some ⟨g, 0, none⟩), .int .i64 s, .string nm, .int .i64 col, bdA lh lv, bdA hh hv] w fun e w' => ∃ v, e = .returned v ∧ v = .tuple #[.slice none 0 0, .int .i64 (M.tkE s nm 1)] ∧ RX q w' g x M K ∧ Only (fun b => q.S b ∨ K b) w w' :=
  (rscan_any R s nm col lh hh lv hv hlw hhw).mono (by
    rintro e w1 (⟨z, rfl, hz, ht, r, o⟩ | ⟨v, Z, rfl, ht, _⟩)
    · rw [Mu.tkE_iff] at ht
      exact ⟨_, rfl, by rw [ht], r, o⟩
    · rw [Mu.tkE_iff] at ht
      exact absurd ht.symm h0)
theorem qscan_ok (R : RX q w g x M K) (nm : ByteArray) (col : Int) (lh hh : Bool) (lv hv : Vl) (hlw : lv.wf) (hhw : hv.wf) (h0 : M.tkE s nm 1 = 0) {F : List (List Vl)} (hF : scnD (M.see s.toNat) nm col (bndOf lh lv) (bndOf hh hv) = (F, 0)) : Calls Tryz.prog 248 #[.pointer (some ⟨g, 0, none⟩), .int .i64 s, .string nm, .int .i64 col, bdA lh lv, bdA hh hv] w fun e w' => ∃ v, e = .returned v ∧ ∃ va vn vc Z, v = .tuple #[.slice va vn vc, .int .i64 0] ∧ RL w.heap.size (.slice va vn vc) Z w' ∧ Z.map (·.2) = F ∧ RX q w' g x (M.setL s.toNat nm 1) K ∧ Only (fun b => q.S b ∨ K b) w w' :=
  (rscan_any R s nm col lh hh lv hv hlw hhw).mono (by
    rintro e w1 (⟨z, rfl, hz, ht, r, o⟩ | ⟨v, Z, rfl, ht, hr, hq, r, o⟩)
    · rw [Mu.tkE_iff, h0] at ht
      exact absurd ht hz
    · rw [hF] at hq ⊢
      obtain ⟨va, vc, rfl⟩ := ownsRow_shape hr.own
      exact ⟨_, rfl, va, _, vc, Z, rfl, hr, hq, r, o⟩)
theorem RL.one {lo : Nat} {v : Value} {r : List Vl} {rv : Value} {w : World} (h : w.ownsRow 0 95 1 rv 1 [v]) (hr : OwnV w v r) (hv : ∀ b, v.ownBlock = some b → lo ≤ b) (hb : ∀ b, rv.ownBlock = some b → lo ≤ b) : RL lo rv [(v, r)] w :=
  ⟨h, fun z hz => by rw [List.mem_singleton] at hz; subst hz; exact ⟨hr, hv⟩, hb, List.pairwise_singleton _ _⟩
set_option maxRecDepth 100000 in
set_option maxHeartbeats 16000000 in
theorem sqfetch_any (R : QR q w k g x M K last) (hin : M.inT s = 0) (hcom : findD M.com st.table ≠ none) (hu : findD (M.see s.toNat) st.table = some u) (ok : TbOk u) (hC : OwnC w (.slice ca cn cc) u.cols) (hCa : ∀ b, (Value.slice ca cn cc).ownBlock = some b → Apa q x k K b) (hS : StM q x k K w S st) (hw : WhOk u.cols st.wh) (hwl : st.wh.length ≤ 200) : Calls Tryz.prog 172 #[.pointer (some ⟨k, 0, none⟩), .int .i64 s, schU tn (.slice ca cn cc) (u.pk : Int) (ixI u.ix), .agg (tabV 13 S.cell)] w (FtP q w k g x M K s st.table (planD u.cols (u.pk : Int) (ixI u.ix) st.wh).kind (hitD u st.wh)) := by
  obtain ⟨i0, hi0, hz0, hz1, hz2⟩ := info_parts Tryz.infoEVals
  unfold schU
  obtain ⟨a2, c2, a4, c4, a6, c6, a7, c7, a8, c8, hcs, _, _, _, _, x8, _, _, _, _, p8⟩ := hS.cells_
  rw [hcs]
  have hcl : u.cols.length ≤ 100 := by have := ok.n3; omega
  have o0 : Only (fun _ => False) w (w.alloc (.cells #[.string tn, .slice ca cn cc, .int .i64 (u.pk : Int), .int .i64 (ixI u.ix)] 79)) := (Only.refl _ w).alloc _
  have N0 := Has.new w #[.string tn, .slice ca cn cc, .int .i64 (u.pk : Int), .int .i64 (ixI u.ix)] 79
  have o1 : Only (fun _ => False) (w.alloc (.cells #[.string tn, .slice ca cn cc, .int .i64 (u.pk : Int), .int .i64 (ixI u.ix)] 79)) ((w.alloc (.cells #[.string tn, .slice ca cn cc, .int .i64 (u.pk : Int), .int .i64 (ixI u.ix)] 79)).alloc (.cells #[.int .i64 st.kind, .string st.table, .slice a2 st.defs.length c2, .int .i64 st.pk, .slice a4 st.lits.length c4, .bool st.star, .slice a6 st.list.length c6, .slice a7 st.sets.length c7, .slice a8 st.wh.length c8, .string st.order, .bool st.desc, .bool st.hasL, .int .i64 st.lim] 173)) := (Only.refl _ _).alloc _
  have N1 := Has.new (w.alloc (.cells #[.string tn, .slice ca cn cc, .int .i64 (u.pk : Int), .int .i64 (ixI u.ix)] 79)) #[.int .i64 st.kind, .string st.table, .slice a2 st.defs.length c2, .int .i64 st.pk, .slice a4 st.lits.length c4, .bool st.star, .slice a6 st.list.length c6, .slice a7 st.sets.length c7, .slice a8 st.wh.length c8, .string st.order, .bool st.desc, .bool st.hasL, .int .i64 st.lim] 173
  have sz : (w.alloc (.cells #[.string tn, .slice ca cn cc, .int .i64 (u.pk : Int), .int .i64 (ixI u.ix)] 79)).heap.size = w.heap.size + 1 := by simp
  rw [sz] at N1
  have oA := o0.trans o1 (fun _ _ e => e)
  have HA := hide (show Has ((w.alloc (.cells #[.string tn, .slice ca cn cc, .int .i64 (u.pk : Int), .int .i64 (ixI u.ix)] 79)).alloc (.cells #[.int .i64 st.kind, .string st.table, .slice a2 st.defs.length c2, .int .i64 st.pk, .slice a4 st.lits.length c4, .bool st.star, .slice a6 st.list.length c6, .slice a7 st.sets.length c7, .slice a8 st.wh.length c8, .string st.order, .bool st.desc, .bool st.hasL, .int .i64 st.lim] 173)) w.heap.size #[.string tn, .slice ca cn cc, .int .i64 (u.pk : Int), .int .i64 (ixI u.ix)] 79 ∧ Has ((w.alloc (.cells #[.string tn, .slice ca cn cc, .int .i64 (u.pk : Int), .int .i64 (ixI u.ix)] 79)).alloc (.cells #[.int .i64 st.kind, .string st.table, .slice a2 st.defs.length c2, .int .i64 st.pk, .slice a4 st.lits.length c4, .bool st.star, .slice a6 st.list.length c6, .slice a7 st.sets.length c7, .slice a8 st.wh.length c8, .string st.order, .bool st.desc, .bool st.hasL, .int .i64 st.lim] 173)) (w.heap.size + 1) #[.int .i64 st.kind, .string st.table, .slice a2 st.defs.length c2, .int .i64 st.pk, .slice a4 st.lits.length c4, .bool st.star, .slice a6 st.list.length c6, .slice a7 st.sets.length c7, .slice a8 st.wh.length c8, .string st.order, .bool st.desc, .bool st.hasL, .int .i64 st.lim] 173 ∧ OwnC ((w.alloc (.cells #[.string tn, .slice ca cn cc, .int .i64 (u.pk : Int), .int .i64 (ixI u.ix)] 79)).alloc (.cells #[.int .i64 st.kind, .string st.table, .slice a2 st.defs.length c2, .int .i64 st.pk, .slice a4 st.lits.length c4, .bool st.star, .slice a6 st.list.length c6, .slice a7 st.sets.length c7, .slice a8 st.wh.length c8, .string st.order, .bool st.desc, .bool st.hasL, .int .i64 st.lim] 173)) (.slice ca cn cc) u.cols ∧ OwnM ((w.alloc (.cells #[.string tn, .slice ca cn cc, .int .i64 (u.pk : Int), .int .i64 (ixI u.ix)] 79)).alloc (.cells #[.int .i64 st.kind, .string st.table, .slice a2 st.defs.length c2, .int .i64 st.pk, .slice a4 st.lits.length c4, .bool st.star, .slice a6 st.list.length c6, .slice a7 st.sets.length c7, .slice a8 st.wh.length c8, .string st.order, .bool st.desc, .bool st.hasL, .int .i64 st.lim] 173)) (.slice a8 st.wh.length c8) st.wh ∧ QR q ((w.alloc (.cells #[.string tn, .slice ca cn cc, .int .i64 (u.pk : Int), .int .i64 (ixI u.ix)] 79)).alloc (.cells #[.int .i64 st.kind, .string st.table, .slice a2 st.defs.length c2, .int .i64 st.pk, .slice a4 st.lits.length c4, .bool st.star, .slice a6 st.list.length c6, .slice a7 st.sets.length c7, .slice a8 st.wh.length c8, .string st.order, .bool st.desc, .bool st.hasL, .int .i64 st.lim] 173)) k g x M K last ∧ Only (fun _ => False) w ((w.alloc (.cells #[.string tn, .slice ca cn cc, .int .i64 (u.pk : Int), .int .i64 (ixI u.ix)] 79)).alloc (.cells #[.int .i64 st.kind, .string st.table, .slice a2 st.defs.length c2, .int .i64 st.pk, .slice a4 st.lits.length c4, .bool st.star, .slice a6 st.list.length c6, .slice a7 st.sets.length c7, .slice a8 st.wh.length c8, .string st.order, .bool st.desc, .bool st.hasL, .int .i64 st.lim] 173)) from ⟨N0.keep o1 (fun e => e), N1, hC.keep oA (fun _ _ e => e), x8.quiet oA, R.quiet oA, oA⟩)
  have HAP := hide (show ∀ b, w.heap.size ≤ b → Apa q x k K b from fun b hb => R.apn hb)
  have HCA := hide (And.intro hCa p8)
  have HLT := hide R.lts
  obtain ⟨p, hp⟩ : ∃ p, planD u.cols (u.pk : Int) (ixI u.ix) st.wh = p := ⟨_, rfl⟩
  have PK := plan_ok ok hw
  rw [hp] at PK ⊢
  have HOK := hide (And.intro PK (And.intro hw (And.intro ok hu)))
  have HTK := hide (tk_or (mode := 1) hin hcom)
  have Hp := hide hp
  clear o0 N0 o1 N1 sz oA hC hS hcs x8 p8 R hCa hp PK hw ok hu hin hcom
  go_enter Tryz.func172, Tryz.ntmps172
  go_upto_region 1 with fail
  generalize (w.alloc (.cells #[.string tn, .slice ca cn cc, .int .i64 (u.pk : Int), .int .i64 (ixI u.ix)] 79)).alloc (.cells #[.int .i64 st.kind, .string st.table, .slice a2 st.defs.length c2, .int .i64 st.pk, .slice a4 st.lits.length c4, .bool st.star, .slice a6 st.list.length c6, .slice a7 st.sets.length c7, .slice a8 st.wh.length c8, .string st.order, .bool st.desc, .bool st.hasL, .int .i64 st.lim] 173) = w1 at *
  generalize hH : w.heap.size = H at *
  have s0 : w1.cell? ⟨H, 0, none⟩ = some (.string tn) := (unhide HA).1.cell 0
  have s1 : w1.cell? ⟨H, 1, none⟩ = some (.slice ca cn cc) := (unhide HA).1.cell 1
  have s2 : w1.cell? ⟨H, 2, none⟩ = some (.int .i64 (u.pk : Int)) := (unhide HA).1.cell 2
  have s3 : w1.cell? ⟨H, 3, none⟩ = some (.int .i64 (ixI u.ix)) := (unhide HA).1.cell 3
  have sl := (unhide HA).1.lt
  have t8 : w1.cell? ⟨H + 1, 8, none⟩ = some (.slice a8 st.wh.length c8) := (unhide HA).2.1.cell 8
  have tl := (unhide HA).2.1.lt
  have C1 := sqplanOf_any (tn := tn) (pk := (u.pk : Int)) (ix := ixI u.ix) (unhide HA).2.2.1 hcl (unhide HA).2.2.2.1 (by omega) (fun c hc => ((unhide HOK).2.1 c hc).1)
  rw [unhide Hp] at C1
  unfold schU at C1
  have C1 : Calls Tryz.prog 246 #[.agg #[.string tn, .slice ca cn cc, .int .i64 (u.pk : Int), .int .i64 (ixI u.ix)], .slice a8 st.wh.length c8] w1 fun e w' => e = .returned (.agg #[.int .i64 p.kind, .int .i64 p.col, .bool p.lo.1, .bool p.lo.2.str, .int .i64 p.lo.2.i, .string p.lo.2.s, .bool p.hi.1, .bool p.hi.2.str, .int .i64 p.hi.2.i, .string p.hi.2.s]) ∧ Only (fun _ => False) w1 w' := C1
  have C1 := hide C1
  go_wp2_with fail
  refine (unhide C1).mono ?_
  rintro e w2 ⟨rfl, o2⟩
  clear C1 s0 s1 s2 s3 sl t8 tl
  have kw2 : k < w2.heap.size := ((unhide HA).2.2.2.2.1.quiet o2).has.lt
  have Q2 := (unhide HA).2.2.2.2.1.quiet o2
  have k1c : w2.cell? ⟨k, 1, none⟩ = some (.int .i64 last) := Q2.has.cell 1
  have k1f := Q2.has.free 1
  have pge : H + 1 < w2.heap.size := ((unhide HA).2.1.keep o2 (fun e => e)).lt
  have kH : k < H := by have := (unhide HLT).2.2.2; omega
  have oK : Only (fun b => b = k) w2 (w2.setCell ⟨k, 1, none⟩ (.int .i64 p.kind)) := only1 _ _
  have oP : Only (fun _ => False) (w2.setCell ⟨k, 1, none⟩ (.int .i64 p.kind)) ((w2.setCell ⟨k, 1, none⟩ (.int .i64 p.kind)).alloc (.cells #[.int .i64 p.kind, .int .i64 p.col, .bool p.lo.1, .bool p.lo.2.str, .int .i64 p.lo.2.i, .string p.lo.2.s, .bool p.hi.1, .bool p.hi.2.str, .int .i64 p.hi.2.i, .string p.hi.2.s] 302)) := (Only.refl _ _).alloc _
  have NP := Has.new (w2.setCell ⟨k, 1, none⟩ (.int .i64 p.kind)) #[.int .i64 p.kind, .int .i64 p.col, .bool p.lo.1, .bool p.lo.2.str, .int .i64 p.lo.2.i, .string p.lo.2.s, .bool p.hi.1, .bool p.hi.2.str, .int .i64 p.hi.2.i, .string p.hi.2.s] 302
  have szk : (w2.setCell ⟨k, 1, none⟩ (.int .i64 p.kind)).heap.size = w2.heap.size := by simp
  rw [szk] at NP
  have HB := hide (show QR q ((w2.setCell ⟨k, 1, none⟩ (.int .i64 p.kind)).alloc (.cells #[.int .i64 p.kind, .int .i64 p.col, .bool p.lo.1, .bool p.lo.2.str, .int .i64 p.lo.2.i, .string p.lo.2.s, .bool p.hi.1, .bool p.hi.2.str, .int .i64 p.hi.2.i, .string p.hi.2.s] 302)) k g x M K p.kind ∧ FqI H w2.heap.size #[.string tn, .slice ca cn cc, .int .i64 (u.pk : Int), .int .i64 (ixI u.ix)] #[.int .i64 st.kind, .string st.table, .slice a2 st.defs.length c2, .int .i64 st.pk, .slice a4 st.lits.length c4, .bool st.star, .slice a6 st.list.length c6, .slice a7 st.sets.length c7, .slice a8 st.wh.length c8, .string st.order, .bool st.desc, .bool st.hasL, .int .i64 st.lim] #[.int .i64 p.kind, .int .i64 p.col, .bool p.lo.1, .bool p.lo.2.str, .int .i64 p.lo.2.i, .string p.lo.2.s, .bool p.hi.1, .bool p.hi.2.str, .int .i64 p.hi.2.i, .string p.hi.2.s] (.slice ca cn cc) u.cols (.slice a8 st.wh.length c8) st.wh ((w2.setCell ⟨k, 1, none⟩ (.int .i64 p.kind)).alloc (.cells #[.int .i64 p.kind, .int .i64 p.col, .bool p.lo.1, .bool p.lo.2.str, .int .i64 p.lo.2.i, .string p.lo.2.s, .bool p.hi.1, .bool p.hi.2.str, .int .i64 p.hi.2.i, .string p.hi.2.s] 302)) ∧ Only (fun b => q.S b ∨ K b ∨ b = k) w ((w2.setCell ⟨k, 1, none⟩ (.int .i64 p.kind)).alloc (.cells #[.int .i64 p.kind, .int .i64 p.col, .bool p.lo.1, .bool p.lo.2.str, .int .i64 p.lo.2.i, .string p.lo.2.s, .bool p.hi.1, .bool p.hi.2.str, .int .i64 p.hi.2.i, .string p.hi.2.s] 302)) from by
    refine ⟨(Q2.setP p.kind).quiet oP, ?_, ?_⟩
    · refine ⟨(((unhide HA).1.keep o2 (fun e => e)).keep oK (fun (e : H = k) => by omega)).keep oP (fun e => e), (((unhide HA).2.1.keep o2 (fun e => e)).keep oK (fun (e : H + 1 = k) => by omega)).keep oP (fun e => e), NP, (((unhide HA).2.2.1.keep o2 (fun _ _ e => e)).keep oK (fun b hb e => ((unhide HCA).1 b hb).2.2.2 e)).keep oP (fun _ _ e => e), (((unhide HA).2.2.2.1.quiet o2).keep oK (fun b hb e => ((unhide HCA).2 b hb).2.2.2 e)).quiet oP⟩
    · exact ((((unhide HA).2.2.2.2.2.trans o2 (fun _ _ e => e)).mono (T := fun b => q.S b ∨ K b ∨ b = k) (fun _ _ e => e.elim)).trans (oK.mono (T := fun b => q.S b ∨ K b ∨ b = k) (fun _ _ e => .inr (.inr e))) (fun _ _ e => e)).trans (oP.mono (fun _ _ e => e.elim)) (fun _ _ e => e))
  clear oP NP Q2 oK o2 HA HLT szk
  go_upto_region 5 with fail
  generalize (w2.setCell ⟨k, 1, none⟩ (.int .i64 p.kind)).alloc (.cells #[.int .i64 p.kind, .int .i64 p.col, .bool p.lo.1, .bool p.lo.2.str, .int .i64 p.lo.2.i, .string p.lo.2.s, .bool p.hi.1, .bool p.hi.2.str, .int .i64 p.hi.2.i, .string p.hi.2.s] 302) = w4 at *
  generalize hP : w2.heap.size = P at *
  clear k1c k1f hP
  have q0 : w4.cell? ⟨P, 0, none⟩ = some (.int .i64 p.kind) := (unhide HB).2.1.pl.cell 0
  have ql := (unhide HB).2.1.pl.lt
  have HPH := hide (And.intro pge kH)
  clear pge kw2
  obtain ⟨tk, htk⟩ : ∃ z, M.tkE s st.table 1 = z := ⟨_, rfl⟩
  have Htk := hide htk
  rw [htk] at HTK
  clear htk
  go_upto_if 28 with fail
  clear q0 ql
  go_cut [11, 13, 14, 15] from 26 to 68 (fun rv ev _ _ wx => FqC q w4 k g x M K s st.table p.kind (fetD u p) rv ev wx)
  case first =>
    have e0 : w4.cell? ⟨k, 0, none⟩ = some (.pointer (some ⟨g, 0, none⟩)) := (unhide HB).1.has.cell 0
    have kl := (unhide HB).1.has.lt
    have t1 : w4.cell? ⟨H + 1, 1, none⟩ = some (.string st.table) := (unhide HB).2.1.sv.cell 1
    have tl := (unhide HB).2.1.sv.lt
    have pl := (unhide HB).2.1.pl.lt
    have p0 : w4.cell? ⟨P, 0, none⟩ = some (.int .i64 p.kind) := (unhide HB).2.1.pl.cell 0
    have p1 : w4.cell? ⟨P, 1, none⟩ = some (.int .i64 p.col) := (unhide HB).2.1.pl.cell 1
    have p2 : w4.cell? ⟨P, 2, none⟩ = some (.bool p.lo.1) := (unhide HB).2.1.pl.cell 2
    have p3 : w4.cell? ⟨P, 3, none⟩ = some (.bool p.lo.2.str) := (unhide HB).2.1.pl.cell 3
    have p4 : w4.cell? ⟨P, 4, none⟩ = some (.int .i64 p.lo.2.i) := (unhide HB).2.1.pl.cell 4
    have p5 : w4.cell? ⟨P, 5, none⟩ = some (.string p.lo.2.s) := (unhide HB).2.1.pl.cell 5
    have p6 : w4.cell? ⟨P, 6, none⟩ = some (.bool p.hi.1) := (unhide HB).2.1.pl.cell 6
    have p7 : w4.cell? ⟨P, 7, none⟩ = some (.bool p.hi.2.str) := (unhide HB).2.1.pl.cell 7
    have p8 : w4.cell? ⟨P, 8, none⟩ = some (.int .i64 p.hi.2.i) := (unhide HB).2.1.pl.cell 8
    have p9 : w4.cell? ⟨P, 9, none⟩ = some (.string p.hi.2.s) := (unhide HB).2.1.pl.cell 9
    have nk := hide (unhide HB).1.kSK
    have nT := hide ((unhide HAP) (H + 1) (by omega)).SK
    have nP := hide ((unhide HAP) P (by have := (unhide HPH).1; omega)).SK
    have oD4 : Only (fun _ => False) w4 w4.drew := (Only.refl _ w4).drew
    have hfo : findD (M.see s.toNat) st.table = some u := (unhide HOK).2.2.2
    by_cases h1 : p.kind = 1
    · have b1 : (p.kind == 1) = true := by simp [h1]
      have hk1 := (unhide HOK).1.key h1
      rcases unhide HTK with h0 | h0
      · rcases lkp_fet hfo h1 hk1 with ⟨hfe, hlk⟩ | ⟨r, hfe, hlk⟩
        · skip
          have CL := qlook_ok (s := s) ((unhide HB).1.quiet oD4).rx st.table p.lo.2 (unhide HOK).1.lw (by rw [unhide Htk, h0])
          rw [hlk] at CL
          unfold vlA at CL
          have CL := hide CL
          have HFE := hide hfe
          clear hlk hfe hk1 hfo h1 oD4
          go_upto_region 6 with fail
          refine wp_region_held_drew (S := (fun w' => w'.cell? ⟨k, 0, none⟩ = some (.pointer (some ⟨g, 0, none⟩)) ∧ w'.cell? ⟨H + 1, 1, none⟩ = some (.string st.table) ∧ w'.cell? ⟨P, 3, none⟩ = some (.bool p.lo.2.str) ∧ w'.cell? ⟨P, 4, none⟩ = some (.int .i64 p.lo.2.i) ∧ w'.cell? ⟨P, 5, none⟩ = some (.string p.lo.2.s))) (by kernel_rfl) ⟨e0, t1, p3, p4, p5⟩ (fun hH0 => ?_)
          refine takeH 0 30 (v := ?va91) rfl rfl (by kernel_rfl) (by kernel_rfl) (by kernel_rfl) (fun _ _ _ h => h) (Or.inl ⟨by rfl, ?ha91⟩) hH0 ?ra91
          case ha91 => (intro w hSw; clear hSw; go_simp; (try with_reducible rfl))
          case ra91 =>
          try simp only [Act.put, List.setIfInBounds_toArray, List.set_cons_zero, List.set_cons_succ]
          refine takeH 1 31 (v := ?va92) rfl rfl (by kernel_rfl) (by kernel_rfl) (by kernel_rfl) (fun _ _ _ h => h) (Or.inl ⟨by rfl, ?ha92⟩) hH0 ?ra92
          case ha92 => (intro w hSw; clear hSw; go_simp; (try with_reducible rfl))
          case ra92 =>
          try simp only [Act.put, List.setIfInBounds_toArray, List.set_cons_zero, List.set_cons_succ]
          refine takeH 2 32 (v := ?va93) rfl rfl (by kernel_rfl) (by kernel_rfl) (by kernel_rfl) (fun _ _ _ h => h) (Or.inl ⟨by rfl, ?ha93⟩) hH0 ?ra93
          case ha93 => (intro w hSw; clear hSw; go_simp; (try with_reducible rfl))
          case ra93 =>
          try simp only [Act.put, List.setIfInBounds_toArray, List.set_cons_zero, List.set_cons_succ]
          refine takeH 3 33 (v := ?va94) rfl rfl (by kernel_rfl) (by kernel_rfl) (by kernel_rfl) (fun _ _ _ h => h) (Or.inl ⟨by rfl, ?ha94⟩) hH0 ?ra94
          case ha94 => (intro w hSw; obtain ⟨s0, s1, s2, s3, s4⟩ := hSw; go_simp; (try with_reducible rfl))
          case ra94 =>
          try simp only [Act.put, List.setIfInBounds_toArray, List.set_cons_zero, List.set_cons_succ]
          refine takeH 4 34 (v := ?va95) rfl rfl (by kernel_rfl) (by kernel_rfl) (by kernel_rfl) (fun _ _ _ h => h) (Or.inl ⟨by rfl, ?ha95⟩) hH0 ?ra95
          case ha95 => (intro w hSw; clear hSw; go_simp; (try with_reducible rfl))
          case ra95 =>
          try simp only [Act.put, List.setIfInBounds_toArray, List.set_cons_zero, List.set_cons_succ]
          refine takeH 5 35 (v := ?va96) rfl rfl (by kernel_rfl) (by kernel_rfl) (by kernel_rfl) (fun _ _ _ h => h) (Or.inl ⟨by rfl, ?ha96⟩) hH0 ?ra96
          case ha96 => (intro w hSw; clear hSw; go_simp; (try with_reducible rfl))
          case ra96 =>
          try simp only [Act.put, List.setIfInBounds_toArray, List.set_cons_zero, List.set_cons_succ]
          refine takeH 6 36 (v := ?va97) rfl rfl (by kernel_rfl) (by kernel_rfl) (by kernel_rfl) (fun _ _ _ h => h) (Or.inl ⟨by rfl, ?ha97⟩) hH0 ?ra97
          case ha97 => (intro w hSw; obtain ⟨s0, s1, s2, s3, s4⟩ := hSw; go_simp; (try with_reducible rfl))
          case ra97 =>
          try simp only [Act.put, List.setIfInBounds_toArray, List.set_cons_zero, List.set_cons_succ]
          refine takeH 7 37 (v := ?va98) rfl rfl (by kernel_rfl) (by kernel_rfl) (by kernel_rfl) (fun _ _ _ h => h) (Or.inl ⟨by rfl, ?ha98⟩) hH0 ?ra98
          case ha98 => (intro w hSw; clear hSw; go_simp; (try with_reducible rfl))
          case ra98 =>
          try simp only [Act.put, List.setIfInBounds_toArray, List.set_cons_zero, List.set_cons_succ]
          refine takeH 8 38 (v := ?va99) rfl rfl (by kernel_rfl) (by kernel_rfl) (by kernel_rfl) (fun _ _ _ h => h) (Or.inl ⟨by rfl, ?ha99⟩) hH0 ?ra99
          case ha99 => (intro w hSw; clear hSw; go_simp; (try with_reducible rfl))
          case ra99 =>
          try simp only [Act.put, List.setIfInBounds_toArray, List.set_cons_zero, List.set_cons_succ]
          refine takeH 9 39 (v := ?va910) rfl rfl (by kernel_rfl) (by kernel_rfl) (by kernel_rfl) (fun _ _ _ h => h) (Or.inl ⟨by rfl, ?ha910⟩) hH0 ?ra910
          case ha910 => (intro w hSw; obtain ⟨s0, s1, s2, s3, s4⟩ := hSw; go_simp; (try with_reducible rfl))
          case ra910 =>
          try simp only [Act.put, List.setIfInBounds_toArray, List.set_cons_zero, List.set_cons_succ]
          refine callH 10 (by kernel_rfl) rfl 40 rfl rfl 247 Tryz.func247 (by kernel_rfl) (by kernel_rfl) #[.tmp 33, .tmp 34, .tmp 36, .tmp 39] #[28, 3, 9, 152] rfl #[.pointer (some ⟨g, 0, none⟩), .int .i64 s, .string st.table, .agg #[.bool p.lo.2.str, .int .i64 p.lo.2.i, .string p.lo.2.s]] (by simp [Act.eval]) (R := fun v w' => ∃ va vc, v = .tuple #[.slice va ([] : List Vl).length vc, .int .i64 9] ∧ OwnV w' (.slice va ([] : List Vl).length vc) [] ∧ Newer w4.drew (.slice va ([] : List Vl).length vc) ∧ RX q w' g x (M.setL s.toNat st.table 1) K ∧ Only (fun b => q.S b ∨ K b) w4.drew w') (unhide CL) ?ka9
          case ka9 =>
          rintro _ w6 ⟨va, vc, rfl, hV, hN, rX, o6⟩
          have S6 : w6.cell? ⟨k, 0, none⟩ = some (.pointer (some ⟨g, 0, none⟩)) ∧ w6.cell? ⟨H + 1, 1, none⟩ = some (.string st.table) ∧ w6.cell? ⟨P, 3, none⟩ = some (.bool p.lo.2.str) ∧ w6.cell? ⟨P, 4, none⟩ = some (.int .i64 p.lo.2.i) ∧ w6.cell? ⟨P, 5, none⟩ = some (.string p.lo.2.s) := ⟨cell_keep (hH0.1) o6 (unhide nk), cell_keep (hH0.2.1) o6 (unhide nT), cell_keep (hH0.2.2.1) o6 (unhide nP), cell_keep (hH0.2.2.2.1) o6 (unhide nP), cell_keep (hH0.2.2.2.2) o6 (unhide nP)⟩
          refine ⟨S6, ?_⟩
          try simp only [Act.put, List.setIfInBounds_toArray, List.set_cons_zero, List.set_cons_succ]
          refine takeH 11 29 (v := ?va911) rfl rfl (by kernel_rfl) (by kernel_rfl) (by kernel_rfl) (fun _ _ _ h => h) (Or.inl ⟨by rfl, ?ha911⟩) S6 ?ra911
          case ha911 => (intro w hSw; clear hSw; go_simp; (try with_reducible rfl))
          case ra911 =>
          try simp only [Act.put, List.setIfInBounds_toArray, List.set_cons_zero, List.set_cons_succ]
          refine takeH 12 41 (v := ?va912) rfl rfl (by kernel_rfl) (by kernel_rfl) (by kernel_rfl) (fun _ _ _ h => h) (Or.inl ⟨by rfl, ?ha912⟩) S6 ?ra912
          case ha912 => (intro w hSw; clear hSw; go_simp; (try with_reducible rfl))
          case ra912 =>
          try simp only [Act.put, List.setIfInBounds_toArray, List.set_cons_zero, List.set_cons_succ]
          refine takeH 13 42 (v := ?va913) rfl rfl (by kernel_rfl) (by kernel_rfl) (by kernel_rfl) (fun _ _ _ h => h) (Or.inl ⟨by rfl, ?ha913⟩) S6 ?ra913
          case ha913 => (intro w hSw; clear hSw; go_simp; (try with_reducible rfl))
          case ra913 =>
          try simp only [Act.put, List.setIfInBounds_toArray, List.set_cons_zero, List.set_cons_succ]
          refine takeH 14 14 (v := ?va914) rfl rfl (by kernel_rfl) (by kernel_rfl) (by kernel_rfl) (fun _ _ _ h => h) (Or.inl ⟨by rfl, ?ha914⟩) S6 ?ra914
          case ha914 => (intro w hSw; clear hSw; go_simp; (try with_reducible rfl))
          case ra914 =>
          try simp only [Act.put, List.setIfInBounds_toArray, List.set_cons_zero, List.set_cons_succ]
          refine takeH 15 15 (v := ?va915) rfl rfl (by kernel_rfl) (by kernel_rfl) (by kernel_rfl) (fun _ _ _ h => h) (Or.inl ⟨by rfl, ?ha915⟩) S6 ?ra915
          case ha915 => (intro w hSw; clear hSw; go_simp; (try with_reducible rfl))
          case ra915 =>
          try simp only [Act.put, List.setIfInBounds_toArray, List.set_cons_zero, List.set_cons_succ]
          refine wpAnyH_done (by kernel_rfl) ?_ _
          have oD : Only (fun b => q.S b ∨ K b) w4 w6 := (Only.refl (fun b => q.S b ∨ K b) w4).drew.trans o6 (fun _ _ e => e)
          clear hH0 S6
          have Q6 := (unhide HB).1.turn rX oD (unhide nk) (fun b hb => .inl hb)
          have HF := hide (show QR q w6 k g x (M.setL s.toNat st.table 1) K p.kind ∧ Only (fun b => q.S b ∨ K b) w4 w6 from ⟨Q6, oD⟩)
          have HC := hide (show FqC q w4 k g x M K s st.table p.kind (fetD u p) (.slice none 0 0) (.int .i64 0) w6 from ⟨none, 0, 0, [], rfl, by rw [unhide Htk, h0], RL.nil _ _, by rw [unhide Htk, if_pos h0, unhide HFE]; rfl, by rw [unhide Htk, if_pos h0]; exact (unhide HF).1, (unhide HF).2⟩)
          clear Q6 oD rX o6 hV hN CL HF e0 t1 p0 p1 p2 p3 p4 p5 p6 p7 p8 p9 kl tl pl
          go_wp2_with fail
          go_meet
          exact unhide HC
        · skip
          have CL := qlook_ok (s := s) ((unhide HB).1.quiet oD4).rx st.table p.lo.2 (unhide HOK).1.lw (by rw [unhide Htk, h0])
          rw [hlk] at CL
          unfold vlA at CL
          have CL := hide CL
          have HFE := hide hfe
          clear hlk hfe hk1 hfo h1 oD4
          go_upto_region 6 with fail
          obtain ⟨rn, hrn⟩ : ∃ n, r.length = n := ⟨_, rfl⟩
          rw [hrn] at CL
          have Hrn := hide hrn
          clear hrn
          refine wp_region_held_drew (S := (fun w' => w'.cell? ⟨k, 0, none⟩ = some (.pointer (some ⟨g, 0, none⟩)) ∧ w'.cell? ⟨H + 1, 1, none⟩ = some (.string st.table) ∧ w'.cell? ⟨P, 3, none⟩ = some (.bool p.lo.2.str) ∧ w'.cell? ⟨P, 4, none⟩ = some (.int .i64 p.lo.2.i) ∧ w'.cell? ⟨P, 5, none⟩ = some (.string p.lo.2.s))) (by kernel_rfl) ⟨e0, t1, p3, p4, p5⟩ (fun hH0 => ?_)
          refine takeH 0 30 (v := ?va01) rfl rfl (by kernel_rfl) (by kernel_rfl) (by kernel_rfl) (fun _ _ _ h => h) (Or.inl ⟨by rfl, ?ha01⟩) hH0 ?ra01
          case ha01 => (intro w hSw; clear hSw; go_simp; (try with_reducible rfl))
          case ra01 =>
          try simp only [Act.put, List.setIfInBounds_toArray, List.set_cons_zero, List.set_cons_succ]
          refine takeH 1 31 (v := ?va02) rfl rfl (by kernel_rfl) (by kernel_rfl) (by kernel_rfl) (fun _ _ _ h => h) (Or.inl ⟨by rfl, ?ha02⟩) hH0 ?ra02
          case ha02 => (intro w hSw; clear hSw; go_simp; (try with_reducible rfl))
          case ra02 =>
          try simp only [Act.put, List.setIfInBounds_toArray, List.set_cons_zero, List.set_cons_succ]
          refine takeH 2 32 (v := ?va03) rfl rfl (by kernel_rfl) (by kernel_rfl) (by kernel_rfl) (fun _ _ _ h => h) (Or.inl ⟨by rfl, ?ha03⟩) hH0 ?ra03
          case ha03 => (intro w hSw; clear hSw; go_simp; (try with_reducible rfl))
          case ra03 =>
          try simp only [Act.put, List.setIfInBounds_toArray, List.set_cons_zero, List.set_cons_succ]
          refine takeH 3 33 (v := ?va04) rfl rfl (by kernel_rfl) (by kernel_rfl) (by kernel_rfl) (fun _ _ _ h => h) (Or.inl ⟨by rfl, ?ha04⟩) hH0 ?ra04
          case ha04 => (intro w hSw; obtain ⟨s0, s1, s2, s3, s4⟩ := hSw; go_simp; (try with_reducible rfl))
          case ra04 =>
          try simp only [Act.put, List.setIfInBounds_toArray, List.set_cons_zero, List.set_cons_succ]
          refine takeH 4 34 (v := ?va05) rfl rfl (by kernel_rfl) (by kernel_rfl) (by kernel_rfl) (fun _ _ _ h => h) (Or.inl ⟨by rfl, ?ha05⟩) hH0 ?ra05
          case ha05 => (intro w hSw; clear hSw; go_simp; (try with_reducible rfl))
          case ra05 =>
          try simp only [Act.put, List.setIfInBounds_toArray, List.set_cons_zero, List.set_cons_succ]
          refine takeH 5 35 (v := ?va06) rfl rfl (by kernel_rfl) (by kernel_rfl) (by kernel_rfl) (fun _ _ _ h => h) (Or.inl ⟨by rfl, ?ha06⟩) hH0 ?ra06
          case ha06 => (intro w hSw; clear hSw; go_simp; (try with_reducible rfl))
          case ra06 =>
          try simp only [Act.put, List.setIfInBounds_toArray, List.set_cons_zero, List.set_cons_succ]
          refine takeH 6 36 (v := ?va07) rfl rfl (by kernel_rfl) (by kernel_rfl) (by kernel_rfl) (fun _ _ _ h => h) (Or.inl ⟨by rfl, ?ha07⟩) hH0 ?ra07
          case ha07 => (intro w hSw; obtain ⟨s0, s1, s2, s3, s4⟩ := hSw; go_simp; (try with_reducible rfl))
          case ra07 =>
          try simp only [Act.put, List.setIfInBounds_toArray, List.set_cons_zero, List.set_cons_succ]
          refine takeH 7 37 (v := ?va08) rfl rfl (by kernel_rfl) (by kernel_rfl) (by kernel_rfl) (fun _ _ _ h => h) (Or.inl ⟨by rfl, ?ha08⟩) hH0 ?ra08
          case ha08 => (intro w hSw; clear hSw; go_simp; (try with_reducible rfl))
          case ra08 =>
          try simp only [Act.put, List.setIfInBounds_toArray, List.set_cons_zero, List.set_cons_succ]
          refine takeH 8 38 (v := ?va09) rfl rfl (by kernel_rfl) (by kernel_rfl) (by kernel_rfl) (fun _ _ _ h => h) (Or.inl ⟨by rfl, ?ha09⟩) hH0 ?ra09
          case ha09 => (intro w hSw; clear hSw; go_simp; (try with_reducible rfl))
          case ra09 =>
          try simp only [Act.put, List.setIfInBounds_toArray, List.set_cons_zero, List.set_cons_succ]
          refine takeH 9 39 (v := ?va010) rfl rfl (by kernel_rfl) (by kernel_rfl) (by kernel_rfl) (fun _ _ _ h => h) (Or.inl ⟨by rfl, ?ha010⟩) hH0 ?ra010
          case ha010 => (intro w hSw; obtain ⟨s0, s1, s2, s3, s4⟩ := hSw; go_simp; (try with_reducible rfl))
          case ra010 =>
          try simp only [Act.put, List.setIfInBounds_toArray, List.set_cons_zero, List.set_cons_succ]
          refine callH 10 (by kernel_rfl) rfl 40 rfl rfl 247 Tryz.func247 (by kernel_rfl) (by kernel_rfl) #[.tmp 33, .tmp 34, .tmp 36, .tmp 39] #[28, 3, 9, 152] rfl #[.pointer (some ⟨g, 0, none⟩), .int .i64 s, .string st.table, .agg #[.bool p.lo.2.str, .int .i64 p.lo.2.i, .string p.lo.2.s]] (by simp [Act.eval]) (R := fun v w' => ∃ va vc, v = .tuple #[.slice va rn vc, .int .i64 0] ∧ OwnV w' (.slice va rn vc) r ∧ Newer w4.drew (.slice va rn vc) ∧ RX q w' g x (M.setL s.toNat st.table 1) K ∧ Only (fun b => q.S b ∨ K b) w4.drew w') (unhide CL) ?ka0
          case ka0 =>
          rintro _ w6 ⟨va, vc, rfl, hV, hN, rX, o6⟩
          have S6 : w6.cell? ⟨k, 0, none⟩ = some (.pointer (some ⟨g, 0, none⟩)) ∧ w6.cell? ⟨H + 1, 1, none⟩ = some (.string st.table) ∧ w6.cell? ⟨P, 3, none⟩ = some (.bool p.lo.2.str) ∧ w6.cell? ⟨P, 4, none⟩ = some (.int .i64 p.lo.2.i) ∧ w6.cell? ⟨P, 5, none⟩ = some (.string p.lo.2.s) := ⟨cell_keep (hH0.1) o6 (unhide nk), cell_keep (hH0.2.1) o6 (unhide nT), cell_keep (hH0.2.2.1) o6 (unhide nP), cell_keep (hH0.2.2.2.1) o6 (unhide nP), cell_keep (hH0.2.2.2.2) o6 (unhide nP)⟩
          refine ⟨S6, ?_⟩
          try simp only [Act.put, List.setIfInBounds_toArray, List.set_cons_zero, List.set_cons_succ]
          refine takeH 11 29 (v := ?va011) rfl rfl (by kernel_rfl) (by kernel_rfl) (by kernel_rfl) (fun _ _ _ h => h) (Or.inl ⟨by rfl, ?ha011⟩) S6 ?ra011
          case ha011 => (intro w hSw; clear hSw; go_simp; (try with_reducible rfl))
          case ra011 =>
          try simp only [Act.put, List.setIfInBounds_toArray, List.set_cons_zero, List.set_cons_succ]
          refine takeH 12 41 (v := ?va012) rfl rfl (by kernel_rfl) (by kernel_rfl) (by kernel_rfl) (fun _ _ _ h => h) (Or.inl ⟨by rfl, ?ha012⟩) S6 ?ra012
          case ha012 => (intro w hSw; clear hSw; go_simp; (try with_reducible rfl))
          case ra012 =>
          try simp only [Act.put, List.setIfInBounds_toArray, List.set_cons_zero, List.set_cons_succ]
          refine takeH 13 42 (v := ?va013) rfl rfl (by kernel_rfl) (by kernel_rfl) (by kernel_rfl) (fun _ _ _ h => h) (Or.inl ⟨by rfl, ?ha013⟩) S6 ?ra013
          case ha013 => (intro w hSw; clear hSw; go_simp; (try with_reducible rfl))
          case ra013 =>
          try simp only [Act.put, List.setIfInBounds_toArray, List.set_cons_zero, List.set_cons_succ]
          refine takeH 14 14 (v := ?va014) rfl rfl (by kernel_rfl) (by kernel_rfl) (by kernel_rfl) (fun _ _ _ h => h) (Or.inl ⟨by rfl, ?ha014⟩) S6 ?ra014
          case ha014 => (intro w hSw; clear hSw; go_simp; (try with_reducible rfl))
          case ra014 =>
          try simp only [Act.put, List.setIfInBounds_toArray, List.set_cons_zero, List.set_cons_succ]
          refine takeH 15 15 (v := ?va015) rfl rfl (by kernel_rfl) (by kernel_rfl) (by kernel_rfl) (fun _ _ _ h => h) (Or.inl ⟨by rfl, ?ha015⟩) S6 ?ra015
          case ha015 => (intro w hSw; clear hSw; go_simp; (try with_reducible rfl))
          case ra015 =>
          try simp only [Act.put, List.setIfInBounds_toArray, List.set_cons_zero, List.set_cons_succ]
          refine wpAnyH_done (by kernel_rfl) ?_ _
          have oD : Only (fun b => q.S b ∨ K b) w4 w6 := (Only.refl (fun b => q.S b ∨ K b) w4).drew.trans o6 (fun _ _ e => e)
          clear hH0 S6
          have Q6 := (unhide HB).1.turn rX oD (unhide nk) (fun b hb => .inl hb)
          have HF := hide (show QR q w6 k g x (M.setL s.toNat st.table 1) K p.kind ∧ Only (fun b => q.S b ∨ K b) w4 w6 from ⟨Q6, oD⟩)
          have own0 : w6.ownsRow 0 95 1 (.slice none 0 0) 0 [] := World.ownsRow_nil _ _ _ _
          have HV := hide (And.intro hV hN)
          clear Q6 oD rX o6 hV hN CL e0 t1 p0 p1 p2 p3 p4 p5 p6 p7 p8 p9 kl tl pl
          go_wp2_with (at_builtin; refine wpList_append2 _ rfl _ _ 50 rfl 95 i0 _ 1 24 Tryz.underlying50 hi0 hz0 hz1 hz2 rfl (by decide) _ _ _ rfl (own0.alloc _) ⟨w6.heap.size, 0, none⟩ 1 1 [.slice va rn vc] rfl rfl ?c1 ?c2 ?c3 ?c4 ?_)
          (try case c1 => exact news_ok _ [.slice va rn vc] 95 _ rfl)
          (try case c2 => first | rfl | (intro u hu; simp at hu; subst hu; rfl))
          (try case c3 => unfold maxLen; omega)
          (try case c4 => omega)
          intro v' w9 hown hgrow hwhere
          have o9 : Only (fun _ => False) w6 w9 := ((Only.refl _ w6).alloc _).grown hgrow (fun b hb _ => by cases hb)
          have z6 := (unhide HF).2.size
          obtain ⟨ra, rc, hv'⟩ := ownsRow_shape hown
          have HC := hide (show FqC q w4 k g x M K s st.table p.kind (fetD u p) v' (.int .i64 0) w9 from by
            subst hv'
            refine ⟨ra, _, rc, [(.slice va rn vc, r)], rfl, by rw [unhide Htk, h0], RL.one hown ((unhide HV).1.keep o9 (fun _ _ e => e)) (fun b hb => ?_) (fun b hb => ?_), by rw [unhide Htk, if_pos h0, unhide HFE]; rfl, by rw [unhide Htk, if_pos h0]; exact (unhide HF).1.quiet o9, (unhide HF).2.trans (o9.mono (fun _ _ e => e.elim)) (fun _ _ e => e)⟩
            · have := (unhide HV).2 b hb; have e9 : w4.drew.heap.size = w4.heap.size := rfl; omega
            · rcases hwhere b hb with c | c
              · cases c
              · omega)
          clear hown hgrow hwhere o9 own0
          rw [hv'] at HC ⊢
          go_wp2_with fail
          go_meet
          exact unhide HC
      · skip
        have CL := qlook_no (s := s) ((unhide HB).1.quiet oD4).rx st.table p.lo.2 (unhide HOK).1.lw (by rw [unhide Htk]; omega)
        rw [unhide Htk, h0] at CL; (try unfold vlA at CL); (try unfold bdA at CL)
        have CL := hide CL
        clear hfo h1 oD4
        try clear hk1
        go_upto_region 6 with fail
        refine wp_region_held_drew (S := (fun w' => w'.cell? ⟨k, 0, none⟩ = some (.pointer (some ⟨g, 0, none⟩)) ∧ w'.cell? ⟨H + 1, 1, none⟩ = some (.string st.table) ∧ w'.cell? ⟨P, 3, none⟩ = some (.bool p.lo.2.str) ∧ w'.cell? ⟨P, 4, none⟩ = some (.int .i64 p.lo.2.i) ∧ w'.cell? ⟨P, 5, none⟩ = some (.string p.lo.2.s))) (by kernel_rfl) ⟨e0, t1, p3, p4, p5⟩ (fun hH0 => ?_)
        refine takeH 0 30 (v := ?vb1) rfl rfl (by kernel_rfl) (by kernel_rfl) (by kernel_rfl) (fun _ _ _ h => h) (Or.inl ⟨by rfl, ?hb1⟩) hH0 ?rb1
        case hb1 => (intro w hSw; clear hSw; go_simp; (try with_reducible rfl))
        case rb1 =>
        try simp only [Act.put, List.setIfInBounds_toArray, List.set_cons_zero, List.set_cons_succ]
        refine takeH 1 31 (v := ?vb2) rfl rfl (by kernel_rfl) (by kernel_rfl) (by kernel_rfl) (fun _ _ _ h => h) (Or.inl ⟨by rfl, ?hb2⟩) hH0 ?rb2
        case hb2 => (intro w hSw; clear hSw; go_simp; (try with_reducible rfl))
        case rb2 =>
        try simp only [Act.put, List.setIfInBounds_toArray, List.set_cons_zero, List.set_cons_succ]
        refine takeH 2 32 (v := ?vb3) rfl rfl (by kernel_rfl) (by kernel_rfl) (by kernel_rfl) (fun _ _ _ h => h) (Or.inl ⟨by rfl, ?hb3⟩) hH0 ?rb3
        case hb3 => (intro w hSw; clear hSw; go_simp; (try with_reducible rfl))
        case rb3 =>
        try simp only [Act.put, List.setIfInBounds_toArray, List.set_cons_zero, List.set_cons_succ]
        refine takeH 3 33 (v := ?vb4) rfl rfl (by kernel_rfl) (by kernel_rfl) (by kernel_rfl) (fun _ _ _ h => h) (Or.inl ⟨by rfl, ?hb4⟩) hH0 ?rb4
        case hb4 => (intro w hSw; obtain ⟨s0, s1, s2, s3, s4⟩ := hSw; go_simp; (try with_reducible rfl))
        case rb4 =>
        try simp only [Act.put, List.setIfInBounds_toArray, List.set_cons_zero, List.set_cons_succ]
        refine takeH 4 34 (v := ?vb5) rfl rfl (by kernel_rfl) (by kernel_rfl) (by kernel_rfl) (fun _ _ _ h => h) (Or.inl ⟨by rfl, ?hb5⟩) hH0 ?rb5
        case hb5 => (intro w hSw; clear hSw; go_simp; (try with_reducible rfl))
        case rb5 =>
        try simp only [Act.put, List.setIfInBounds_toArray, List.set_cons_zero, List.set_cons_succ]
        refine takeH 5 35 (v := ?vb6) rfl rfl (by kernel_rfl) (by kernel_rfl) (by kernel_rfl) (fun _ _ _ h => h) (Or.inl ⟨by rfl, ?hb6⟩) hH0 ?rb6
        case hb6 => (intro w hSw; clear hSw; go_simp; (try with_reducible rfl))
        case rb6 =>
        try simp only [Act.put, List.setIfInBounds_toArray, List.set_cons_zero, List.set_cons_succ]
        refine takeH 6 36 (v := ?vb7) rfl rfl (by kernel_rfl) (by kernel_rfl) (by kernel_rfl) (fun _ _ _ h => h) (Or.inl ⟨by rfl, ?hb7⟩) hH0 ?rb7
        case hb7 => (intro w hSw; obtain ⟨s0, s1, s2, s3, s4⟩ := hSw; go_simp; (try with_reducible rfl))
        case rb7 =>
        try simp only [Act.put, List.setIfInBounds_toArray, List.set_cons_zero, List.set_cons_succ]
        refine takeH 7 37 (v := ?vb8) rfl rfl (by kernel_rfl) (by kernel_rfl) (by kernel_rfl) (fun _ _ _ h => h) (Or.inl ⟨by rfl, ?hb8⟩) hH0 ?rb8
        case hb8 => (intro w hSw; clear hSw; go_simp; (try with_reducible rfl))
        case rb8 =>
        try simp only [Act.put, List.setIfInBounds_toArray, List.set_cons_zero, List.set_cons_succ]
        refine takeH 8 38 (v := ?vb9) rfl rfl (by kernel_rfl) (by kernel_rfl) (by kernel_rfl) (fun _ _ _ h => h) (Or.inl ⟨by rfl, ?hb9⟩) hH0 ?rb9
        case hb9 => (intro w hSw; clear hSw; go_simp; (try with_reducible rfl))
        case rb9 =>
        try simp only [Act.put, List.setIfInBounds_toArray, List.set_cons_zero, List.set_cons_succ]
        refine takeH 9 39 (v := ?vb10) rfl rfl (by kernel_rfl) (by kernel_rfl) (by kernel_rfl) (fun _ _ _ h => h) (Or.inl ⟨by rfl, ?hb10⟩) hH0 ?rb10
        case hb10 => (intro w hSw; obtain ⟨s0, s1, s2, s3, s4⟩ := hSw; go_simp; (try with_reducible rfl))
        case rb10 =>
        try simp only [Act.put, List.setIfInBounds_toArray, List.set_cons_zero, List.set_cons_succ]
        refine callH 10 (by kernel_rfl) rfl 40 rfl rfl 247 Tryz.func247 (by kernel_rfl) (by kernel_rfl) #[.tmp 33, .tmp 34, .tmp 36, .tmp 39] #[28, 3, 9, 152] rfl #[.pointer (some ⟨g, 0, none⟩), .int .i64 s, .string st.table, .agg #[.bool p.lo.2.str, .int .i64 p.lo.2.i, .string p.lo.2.s]] (by simp [Act.eval]) (R := fun v w' => v = .tuple #[.slice none 0 0, .int .i64 21] ∧ RX q w' g x M K ∧ Only (fun b => q.S b ∨ K b) w4.drew w') (unhide CL) ?kb
        case kb =>
        rintro _ w6 ⟨rfl, rX, o6⟩
        have S6 : w6.cell? ⟨k, 0, none⟩ = some (.pointer (some ⟨g, 0, none⟩)) ∧ w6.cell? ⟨H + 1, 1, none⟩ = some (.string st.table) ∧ w6.cell? ⟨P, 3, none⟩ = some (.bool p.lo.2.str) ∧ w6.cell? ⟨P, 4, none⟩ = some (.int .i64 p.lo.2.i) ∧ w6.cell? ⟨P, 5, none⟩ = some (.string p.lo.2.s) := ⟨cell_keep (hH0.1) o6 (unhide nk), cell_keep (hH0.2.1) o6 (unhide nT), cell_keep (hH0.2.2.1) o6 (unhide nP), cell_keep (hH0.2.2.2.1) o6 (unhide nP), cell_keep (hH0.2.2.2.2) o6 (unhide nP)⟩
        refine ⟨S6, ?_⟩
        try simp only [Act.put, List.setIfInBounds_toArray, List.set_cons_zero, List.set_cons_succ]
        refine takeH 11 29 (v := ?vb11) rfl rfl (by kernel_rfl) (by kernel_rfl) (by kernel_rfl) (fun _ _ _ h => h) (Or.inl ⟨by rfl, ?hb11⟩) S6 ?rb11
        case hb11 => (intro w hSw; clear hSw; go_simp; (try with_reducible rfl))
        case rb11 =>
        try simp only [Act.put, List.setIfInBounds_toArray, List.set_cons_zero, List.set_cons_succ]
        refine takeH 12 41 (v := ?vb12) rfl rfl (by kernel_rfl) (by kernel_rfl) (by kernel_rfl) (fun _ _ _ h => h) (Or.inl ⟨by rfl, ?hb12⟩) S6 ?rb12
        case hb12 => (intro w hSw; clear hSw; go_simp; (try with_reducible rfl))
        case rb12 =>
        try simp only [Act.put, List.setIfInBounds_toArray, List.set_cons_zero, List.set_cons_succ]
        refine takeH 13 42 (v := ?vb13) rfl rfl (by kernel_rfl) (by kernel_rfl) (by kernel_rfl) (fun _ _ _ h => h) (Or.inl ⟨by rfl, ?hb13⟩) S6 ?rb13
        case hb13 => (intro w hSw; clear hSw; go_simp; (try with_reducible rfl))
        case rb13 =>
        try simp only [Act.put, List.setIfInBounds_toArray, List.set_cons_zero, List.set_cons_succ]
        refine takeH 14 14 (v := ?vb14) rfl rfl (by kernel_rfl) (by kernel_rfl) (by kernel_rfl) (fun _ _ _ h => h) (Or.inl ⟨by rfl, ?hb14⟩) S6 ?rb14
        case hb14 => (intro w hSw; clear hSw; go_simp; (try with_reducible rfl))
        case rb14 =>
        try simp only [Act.put, List.setIfInBounds_toArray, List.set_cons_zero, List.set_cons_succ]
        refine takeH 15 15 (v := ?vb15) rfl rfl (by kernel_rfl) (by kernel_rfl) (by kernel_rfl) (fun _ _ _ h => h) (Or.inl ⟨by rfl, ?hb15⟩) S6 ?rb15
        case hb15 => (intro w hSw; clear hSw; go_simp; (try with_reducible rfl))
        case rb15 =>
        try simp only [Act.put, List.setIfInBounds_toArray, List.set_cons_zero, List.set_cons_succ]
        refine wpAnyH_done (by kernel_rfl) ?_ _
        have oD : Only (fun b => q.S b ∨ K b) w4 w6 := (Only.refl (fun b => q.S b ∨ K b) w4).drew.trans o6 (fun _ _ e => e)
        clear hH0 S6
        have Q6 := (unhide HB).1.turn rX oD (unhide nk) (fun b hb => .inl hb)
        have HC := hide (show FqC q w4 k g x M K s st.table p.kind (fetD u p) (.slice none 0 0) (.int .i64 21) w6 from ⟨none, 0, 0, [], rfl, by rw [unhide Htk, h0], RL.nil _ _, by rw [unhide Htk, if_neg (by omega)]; rfl, by rw [unhide Htk, if_neg (by omega)]; exact Q6, oD⟩)
        clear Q6 oD rX o6 CL e0 t1 p0 p1 p2 p3 p4 p5 p6 p7 p8 p9 kl tl pl
        go_wp2_with fail
        go_meet
        exact unhide HC
    · have b1 : (p.kind == 1) = false := by simp [h1]
      have hk1 := (unhide HOK).1.scn h1
      rcases unhide HTK with h0 | h0
      · have CL := qscan_ok (s := s) ((unhide HB).1.quiet oD4).rx st.table p.col p.lo.1 p.hi.1 p.lo.2 p.hi.2 (unhide HOK).1.lw (unhide HOK).1.hw (by rw [unhide Htk, h0]) (scn_fet hfo h1 hk1)
        unfold bdA at CL
        have CL := hide CL
        clear hfo h1 oD4 hk1
        go_upto_region 11 with fail
        refine wp_region_held_drew (S := (fun w' => w'.cell? ⟨k, 0, none⟩ = some (.pointer (some ⟨g, 0, none⟩)) ∧ w'.cell? ⟨H + 1, 1, none⟩ = some (.string st.table) ∧ w'.cell? ⟨P, 1, none⟩ = some (.int .i64 p.col) ∧ w'.cell? ⟨P, 2, none⟩ = some (.bool p.lo.1) ∧ w'.cell? ⟨P, 3, none⟩ = some (.bool p.lo.2.str) ∧ w'.cell? ⟨P, 4, none⟩ = some (.int .i64 p.lo.2.i) ∧ w'.cell? ⟨P, 5, none⟩ = some (.string p.lo.2.s) ∧ w'.cell? ⟨P, 6, none⟩ = some (.bool p.hi.1) ∧ w'.cell? ⟨P, 7, none⟩ = some (.bool p.hi.2.str) ∧ w'.cell? ⟨P, 8, none⟩ = some (.int .i64 p.hi.2.i) ∧ w'.cell? ⟨P, 9, none⟩ = some (.string p.hi.2.s))) (by kernel_rfl) ⟨e0, t1, p1, p2, p3, p4, p5, p6, p7, p8, p9⟩ (fun hH0 => ?_)
        refine takeH 0 53 (v := ?vc1) rfl rfl (by kernel_rfl) (by kernel_rfl) (by kernel_rfl) (fun _ _ _ h => h) (Or.inl ⟨by rfl, ?hc1⟩) hH0 ?rc1
        case hc1 => (intro w hSw; clear hSw; go_simp; (try with_reducible rfl))
        case rc1 =>
        try simp only [Act.put, List.setIfInBounds_toArray, List.set_cons_zero, List.set_cons_succ]
        refine takeH 1 54 (v := ?vc2) rfl rfl (by kernel_rfl) (by kernel_rfl) (by kernel_rfl) (fun _ _ _ h => h) (Or.inl ⟨by rfl, ?hc2⟩) hH0 ?rc2
        case hc2 => (intro w hSw; clear hSw; go_simp; (try with_reducible rfl))
        case rc2 =>
        try simp only [Act.put, List.setIfInBounds_toArray, List.set_cons_zero, List.set_cons_succ]
        refine takeH 2 55 (v := ?vc3) rfl rfl (by kernel_rfl) (by kernel_rfl) (by kernel_rfl) (fun _ _ _ h => h) (Or.inl ⟨by rfl, ?hc3⟩) hH0 ?rc3
        case hc3 => (intro w hSw; clear hSw; go_simp; (try with_reducible rfl))
        case rc3 =>
        try simp only [Act.put, List.setIfInBounds_toArray, List.set_cons_zero, List.set_cons_succ]
        refine takeH 3 56 (v := ?vc4) rfl rfl (by kernel_rfl) (by kernel_rfl) (by kernel_rfl) (fun _ _ _ h => h) (Or.inl ⟨by rfl, ?hc4⟩) hH0 ?rc4
        case hc4 => (intro w hSw; obtain ⟨s0, s1, s2, s3, s4, s5, s6, s7, s8, s9, s10⟩ := hSw; go_simp; (try with_reducible rfl))
        case rc4 =>
        try simp only [Act.put, List.setIfInBounds_toArray, List.set_cons_zero, List.set_cons_succ]
        refine takeH 4 57 (v := ?vc5) rfl rfl (by kernel_rfl) (by kernel_rfl) (by kernel_rfl) (fun _ _ _ h => h) (Or.inl ⟨by rfl, ?hc5⟩) hH0 ?rc5
        case hc5 => (intro w hSw; clear hSw; go_simp; (try with_reducible rfl))
        case rc5 =>
        try simp only [Act.put, List.setIfInBounds_toArray, List.set_cons_zero, List.set_cons_succ]
        refine takeH 5 58 (v := ?vc6) rfl rfl (by kernel_rfl) (by kernel_rfl) (by kernel_rfl) (fun _ _ _ h => h) (Or.inl ⟨by rfl, ?hc6⟩) hH0 ?rc6
        case hc6 => (intro w hSw; clear hSw; go_simp; (try with_reducible rfl))
        case rc6 =>
        try simp only [Act.put, List.setIfInBounds_toArray, List.set_cons_zero, List.set_cons_succ]
        refine takeH 6 59 (v := ?vc7) rfl rfl (by kernel_rfl) (by kernel_rfl) (by kernel_rfl) (fun _ _ _ h => h) (Or.inl ⟨by rfl, ?hc7⟩) hH0 ?rc7
        case hc7 => (intro w hSw; obtain ⟨s0, s1, s2, s3, s4, s5, s6, s7, s8, s9, s10⟩ := hSw; go_simp; (try with_reducible rfl))
        case rc7 =>
        try simp only [Act.put, List.setIfInBounds_toArray, List.set_cons_zero, List.set_cons_succ]
        refine takeH 7 60 (v := ?vc8) rfl rfl (by kernel_rfl) (by kernel_rfl) (by kernel_rfl) (fun _ _ _ h => h) (Or.inl ⟨by rfl, ?hc8⟩) hH0 ?rc8
        case hc8 => (intro w hSw; clear hSw; go_simp; (try with_reducible rfl))
        case rc8 =>
        try simp only [Act.put, List.setIfInBounds_toArray, List.set_cons_zero, List.set_cons_succ]
        refine takeH 8 61 (v := ?vc9) rfl rfl (by kernel_rfl) (by kernel_rfl) (by kernel_rfl) (fun _ _ _ h => h) (Or.inl ⟨by rfl, ?hc9⟩) hH0 ?rc9
        case hc9 => (intro w hSw; obtain ⟨s0, s1, s2, s3, s4, s5, s6, s7, s8, s9, s10⟩ := hSw; go_simp; (try with_reducible rfl))
        case rc9 =>
        try simp only [Act.put, List.setIfInBounds_toArray, List.set_cons_zero, List.set_cons_succ]
        refine takeH 9 62 (v := ?vc10) rfl rfl (by kernel_rfl) (by kernel_rfl) (by kernel_rfl) (fun _ _ _ h => h) (Or.inl ⟨by rfl, ?hc10⟩) hH0 ?rc10
        case hc10 => (intro w hSw; clear hSw; go_simp; (try with_reducible rfl))
        case rc10 =>
        try simp only [Act.put, List.setIfInBounds_toArray, List.set_cons_zero, List.set_cons_succ]
        refine takeH 10 63 (v := ?vc11) rfl rfl (by kernel_rfl) (by kernel_rfl) (by kernel_rfl) (fun _ _ _ h => h) (Or.inl ⟨by rfl, ?hc11⟩) hH0 ?rc11
        case hc11 => (intro w hSw; obtain ⟨s0, s1, s2, s3, s4, s5, s6, s7, s8, s9, s10⟩ := hSw; go_simp; (try with_reducible rfl))
        case rc11 =>
        try simp only [Act.put, List.setIfInBounds_toArray, List.set_cons_zero, List.set_cons_succ]
        refine takeH 11 64 (v := ?vc12) rfl rfl (by kernel_rfl) (by kernel_rfl) (by kernel_rfl) (fun _ _ _ h => h) (Or.inl ⟨by rfl, ?hc12⟩) hH0 ?rc12
        case hc12 => (intro w hSw; clear hSw; go_simp; (try with_reducible rfl))
        case rc12 =>
        try simp only [Act.put, List.setIfInBounds_toArray, List.set_cons_zero, List.set_cons_succ]
        refine takeH 12 65 (v := ?vc13) rfl rfl (by kernel_rfl) (by kernel_rfl) (by kernel_rfl) (fun _ _ _ h => h) (Or.inl ⟨by rfl, ?hc13⟩) hH0 ?rc13
        case hc13 => (intro w hSw; obtain ⟨s0, s1, s2, s3, s4, s5, s6, s7, s8, s9, s10⟩ := hSw; go_simp; (try with_reducible rfl))
        case rc13 =>
        try simp only [Act.put, List.setIfInBounds_toArray, List.set_cons_zero, List.set_cons_succ]
        refine callH 13 (by kernel_rfl) rfl 66 rfl rfl 248 Tryz.func248 (by kernel_rfl) (by kernel_rfl) #[.tmp 56, .tmp 57, .tmp 59, .tmp 61, .tmp 63, .tmp 65] #[28, 3, 9, 3, 244, 244] rfl #[.pointer (some ⟨g, 0, none⟩), .int .i64 s, .string st.table, .int .i64 p.col, .agg #[.bool p.lo.1, .bool p.lo.2.str, .int .i64 p.lo.2.i, .string p.lo.2.s], .agg #[.bool p.hi.1, .bool p.hi.2.str, .int .i64 p.hi.2.i, .string p.hi.2.s]] (by simp [Act.eval]) (R := fun v w' => ∃ va vn vc Z, v = .tuple #[.slice va vn vc, .int .i64 0] ∧ RL w4.drew.heap.size (.slice va vn vc) Z w' ∧ Z.map (·.2) = fetD u p ∧ RX q w' g x (M.setL s.toNat st.table 1) K ∧ Only (fun b => q.S b ∨ K b) w4.drew w') (unhide CL) ?kc
        case kc =>
        rintro _ w6 ⟨va, vn, vc, Z, rfl, hR, hZ, rX, o6⟩
        have S6 : w6.cell? ⟨k, 0, none⟩ = some (.pointer (some ⟨g, 0, none⟩)) ∧ w6.cell? ⟨H + 1, 1, none⟩ = some (.string st.table) ∧ w6.cell? ⟨P, 1, none⟩ = some (.int .i64 p.col) ∧ w6.cell? ⟨P, 2, none⟩ = some (.bool p.lo.1) ∧ w6.cell? ⟨P, 3, none⟩ = some (.bool p.lo.2.str) ∧ w6.cell? ⟨P, 4, none⟩ = some (.int .i64 p.lo.2.i) ∧ w6.cell? ⟨P, 5, none⟩ = some (.string p.lo.2.s) ∧ w6.cell? ⟨P, 6, none⟩ = some (.bool p.hi.1) ∧ w6.cell? ⟨P, 7, none⟩ = some (.bool p.hi.2.str) ∧ w6.cell? ⟨P, 8, none⟩ = some (.int .i64 p.hi.2.i) ∧ w6.cell? ⟨P, 9, none⟩ = some (.string p.hi.2.s) := ⟨cell_keep (hH0.1) o6 (unhide nk), cell_keep (hH0.2.1) o6 (unhide nT), cell_keep (hH0.2.2.1) o6 (unhide nP), cell_keep (hH0.2.2.2.1) o6 (unhide nP), cell_keep (hH0.2.2.2.2.1) o6 (unhide nP), cell_keep (hH0.2.2.2.2.2.1) o6 (unhide nP), cell_keep (hH0.2.2.2.2.2.2.1) o6 (unhide nP), cell_keep (hH0.2.2.2.2.2.2.2.1) o6 (unhide nP), cell_keep (hH0.2.2.2.2.2.2.2.2.1) o6 (unhide nP), cell_keep (hH0.2.2.2.2.2.2.2.2.2.1) o6 (unhide nP), cell_keep (hH0.2.2.2.2.2.2.2.2.2.2) o6 (unhide nP)⟩
        refine ⟨S6, ?_⟩
        try simp only [Act.put, List.setIfInBounds_toArray, List.set_cons_zero, List.set_cons_succ]
        refine takeH 14 52 (v := ?vc14) rfl rfl (by kernel_rfl) (by kernel_rfl) (by kernel_rfl) (fun _ _ _ h => h) (Or.inl ⟨by rfl, ?hc14⟩) S6 ?rc14
        case hc14 => (intro w hSw; clear hSw; go_simp; (try with_reducible rfl))
        case rc14 =>
        try simp only [Act.put, List.setIfInBounds_toArray, List.set_cons_zero, List.set_cons_succ]
        refine takeH 15 67 (v := ?vc15) rfl rfl (by kernel_rfl) (by kernel_rfl) (by kernel_rfl) (fun _ _ _ h => h) (Or.inl ⟨by rfl, ?hc15⟩) S6 ?rc15
        case hc15 => (intro w hSw; clear hSw; go_simp; (try with_reducible rfl))
        case rc15 =>
        try simp only [Act.put, List.setIfInBounds_toArray, List.set_cons_zero, List.set_cons_succ]
        refine takeH 16 68 (v := ?vc16) rfl rfl (by kernel_rfl) (by kernel_rfl) (by kernel_rfl) (fun _ _ _ h => h) (Or.inl ⟨by rfl, ?hc16⟩) S6 ?rc16
        case hc16 => (intro w hSw; clear hSw; go_simp; (try with_reducible rfl))
        case rc16 =>
        try simp only [Act.put, List.setIfInBounds_toArray, List.set_cons_zero, List.set_cons_succ]
        refine takeH 17 11 (v := ?vc17) rfl rfl (by kernel_rfl) (by kernel_rfl) (by kernel_rfl) (fun _ _ _ h => h) (Or.inl ⟨by rfl, ?hc17⟩) S6 ?rc17
        case hc17 => (intro w hSw; clear hSw; go_simp; (try with_reducible rfl))
        case rc17 =>
        try simp only [Act.put, List.setIfInBounds_toArray, List.set_cons_zero, List.set_cons_succ]
        refine takeH 18 13 (v := ?vc18) rfl rfl (by kernel_rfl) (by kernel_rfl) (by kernel_rfl) (fun _ _ _ h => h) (Or.inl ⟨by rfl, ?hc18⟩) S6 ?rc18
        case hc18 => (intro w hSw; clear hSw; go_simp; (try with_reducible rfl))
        case rc18 =>
        try simp only [Act.put, List.setIfInBounds_toArray, List.set_cons_zero, List.set_cons_succ]
        refine wpAnyH_done (by kernel_rfl) ?_ _
        have oD : Only (fun b => q.S b ∨ K b) w4 w6 := (Only.refl (fun b => q.S b ∨ K b) w4).drew.trans o6 (fun _ _ e => e)
        clear hH0 S6
        have Q6 := (unhide HB).1.turn rX oD (unhide nk) (fun b hb => .inl hb)
        have HC := hide (show FqC q w4 k g x M K s st.table p.kind (fetD u p) (.slice va vn vc) (.int .i64 0) w6 from ⟨va, vn, vc, Z, rfl, by rw [unhide Htk, h0], hR, by rw [unhide Htk, if_pos h0]; exact hZ, by rw [unhide Htk, if_pos h0]; exact Q6, oD⟩)
        clear Q6 oD rX o6 CL hR hZ e0 t1 p0 p1 p2 p3 p4 p5 p6 p7 p8 p9 kl tl pl
        go_wp2_with fail
        go_meet
        exact unhide HC
      · skip
        have CL := qscan_no (s := s) ((unhide HB).1.quiet oD4).rx st.table p.col p.lo.1 p.hi.1 p.lo.2 p.hi.2 (unhide HOK).1.lw (unhide HOK).1.hw (by rw [unhide Htk]; omega)
        rw [unhide Htk, h0] at CL; (try unfold vlA at CL); (try unfold bdA at CL)
        have CL := hide CL
        clear hfo h1 oD4
        try clear hk1
        go_upto_region 11 with fail
        refine wp_region_held_drew (S := (fun w' => w'.cell? ⟨k, 0, none⟩ = some (.pointer (some ⟨g, 0, none⟩)) ∧ w'.cell? ⟨H + 1, 1, none⟩ = some (.string st.table) ∧ w'.cell? ⟨P, 1, none⟩ = some (.int .i64 p.col) ∧ w'.cell? ⟨P, 2, none⟩ = some (.bool p.lo.1) ∧ w'.cell? ⟨P, 3, none⟩ = some (.bool p.lo.2.str) ∧ w'.cell? ⟨P, 4, none⟩ = some (.int .i64 p.lo.2.i) ∧ w'.cell? ⟨P, 5, none⟩ = some (.string p.lo.2.s) ∧ w'.cell? ⟨P, 6, none⟩ = some (.bool p.hi.1) ∧ w'.cell? ⟨P, 7, none⟩ = some (.bool p.hi.2.str) ∧ w'.cell? ⟨P, 8, none⟩ = some (.int .i64 p.hi.2.i) ∧ w'.cell? ⟨P, 9, none⟩ = some (.string p.hi.2.s))) (by kernel_rfl) ⟨e0, t1, p1, p2, p3, p4, p5, p6, p7, p8, p9⟩ (fun hH0 => ?_)
        refine takeH 0 53 (v := ?vd1) rfl rfl (by kernel_rfl) (by kernel_rfl) (by kernel_rfl) (fun _ _ _ h => h) (Or.inl ⟨by rfl, ?hd1⟩) hH0 ?rd1
        case hd1 => (intro w hSw; clear hSw; go_simp; (try with_reducible rfl))
        case rd1 =>
        try simp only [Act.put, List.setIfInBounds_toArray, List.set_cons_zero, List.set_cons_succ]
        refine takeH 1 54 (v := ?vd2) rfl rfl (by kernel_rfl) (by kernel_rfl) (by kernel_rfl) (fun _ _ _ h => h) (Or.inl ⟨by rfl, ?hd2⟩) hH0 ?rd2
        case hd2 => (intro w hSw; clear hSw; go_simp; (try with_reducible rfl))
        case rd2 =>
        try simp only [Act.put, List.setIfInBounds_toArray, List.set_cons_zero, List.set_cons_succ]
        refine takeH 2 55 (v := ?vd3) rfl rfl (by kernel_rfl) (by kernel_rfl) (by kernel_rfl) (fun _ _ _ h => h) (Or.inl ⟨by rfl, ?hd3⟩) hH0 ?rd3
        case hd3 => (intro w hSw; clear hSw; go_simp; (try with_reducible rfl))
        case rd3 =>
        try simp only [Act.put, List.setIfInBounds_toArray, List.set_cons_zero, List.set_cons_succ]
        refine takeH 3 56 (v := ?vd4) rfl rfl (by kernel_rfl) (by kernel_rfl) (by kernel_rfl) (fun _ _ _ h => h) (Or.inl ⟨by rfl, ?hd4⟩) hH0 ?rd4
        case hd4 => (intro w hSw; obtain ⟨s0, s1, s2, s3, s4, s5, s6, s7, s8, s9, s10⟩ := hSw; go_simp; (try with_reducible rfl))
        case rd4 =>
        try simp only [Act.put, List.setIfInBounds_toArray, List.set_cons_zero, List.set_cons_succ]
        refine takeH 4 57 (v := ?vd5) rfl rfl (by kernel_rfl) (by kernel_rfl) (by kernel_rfl) (fun _ _ _ h => h) (Or.inl ⟨by rfl, ?hd5⟩) hH0 ?rd5
        case hd5 => (intro w hSw; clear hSw; go_simp; (try with_reducible rfl))
        case rd5 =>
        try simp only [Act.put, List.setIfInBounds_toArray, List.set_cons_zero, List.set_cons_succ]
        refine takeH 5 58 (v := ?vd6) rfl rfl (by kernel_rfl) (by kernel_rfl) (by kernel_rfl) (fun _ _ _ h => h) (Or.inl ⟨by rfl, ?hd6⟩) hH0 ?rd6
        case hd6 => (intro w hSw; clear hSw; go_simp; (try with_reducible rfl))
        case rd6 =>
        try simp only [Act.put, List.setIfInBounds_toArray, List.set_cons_zero, List.set_cons_succ]
        refine takeH 6 59 (v := ?vd7) rfl rfl (by kernel_rfl) (by kernel_rfl) (by kernel_rfl) (fun _ _ _ h => h) (Or.inl ⟨by rfl, ?hd7⟩) hH0 ?rd7
        case hd7 => (intro w hSw; obtain ⟨s0, s1, s2, s3, s4, s5, s6, s7, s8, s9, s10⟩ := hSw; go_simp; (try with_reducible rfl))
        case rd7 =>
        try simp only [Act.put, List.setIfInBounds_toArray, List.set_cons_zero, List.set_cons_succ]
        refine takeH 7 60 (v := ?vd8) rfl rfl (by kernel_rfl) (by kernel_rfl) (by kernel_rfl) (fun _ _ _ h => h) (Or.inl ⟨by rfl, ?hd8⟩) hH0 ?rd8
        case hd8 => (intro w hSw; clear hSw; go_simp; (try with_reducible rfl))
        case rd8 =>
        try simp only [Act.put, List.setIfInBounds_toArray, List.set_cons_zero, List.set_cons_succ]
        refine takeH 8 61 (v := ?vd9) rfl rfl (by kernel_rfl) (by kernel_rfl) (by kernel_rfl) (fun _ _ _ h => h) (Or.inl ⟨by rfl, ?hd9⟩) hH0 ?rd9
        case hd9 => (intro w hSw; obtain ⟨s0, s1, s2, s3, s4, s5, s6, s7, s8, s9, s10⟩ := hSw; go_simp; (try with_reducible rfl))
        case rd9 =>
        try simp only [Act.put, List.setIfInBounds_toArray, List.set_cons_zero, List.set_cons_succ]
        refine takeH 9 62 (v := ?vd10) rfl rfl (by kernel_rfl) (by kernel_rfl) (by kernel_rfl) (fun _ _ _ h => h) (Or.inl ⟨by rfl, ?hd10⟩) hH0 ?rd10
        case hd10 => (intro w hSw; clear hSw; go_simp; (try with_reducible rfl))
        case rd10 =>
        try simp only [Act.put, List.setIfInBounds_toArray, List.set_cons_zero, List.set_cons_succ]
        refine takeH 10 63 (v := ?vd11) rfl rfl (by kernel_rfl) (by kernel_rfl) (by kernel_rfl) (fun _ _ _ h => h) (Or.inl ⟨by rfl, ?hd11⟩) hH0 ?rd11
        case hd11 => (intro w hSw; obtain ⟨s0, s1, s2, s3, s4, s5, s6, s7, s8, s9, s10⟩ := hSw; go_simp; (try with_reducible rfl))
        case rd11 =>
        try simp only [Act.put, List.setIfInBounds_toArray, List.set_cons_zero, List.set_cons_succ]
        refine takeH 11 64 (v := ?vd12) rfl rfl (by kernel_rfl) (by kernel_rfl) (by kernel_rfl) (fun _ _ _ h => h) (Or.inl ⟨by rfl, ?hd12⟩) hH0 ?rd12
        case hd12 => (intro w hSw; clear hSw; go_simp; (try with_reducible rfl))
        case rd12 =>
        try simp only [Act.put, List.setIfInBounds_toArray, List.set_cons_zero, List.set_cons_succ]
        refine takeH 12 65 (v := ?vd13) rfl rfl (by kernel_rfl) (by kernel_rfl) (by kernel_rfl) (fun _ _ _ h => h) (Or.inl ⟨by rfl, ?hd13⟩) hH0 ?rd13
        case hd13 => (intro w hSw; obtain ⟨s0, s1, s2, s3, s4, s5, s6, s7, s8, s9, s10⟩ := hSw; go_simp; (try with_reducible rfl))
        case rd13 =>
        try simp only [Act.put, List.setIfInBounds_toArray, List.set_cons_zero, List.set_cons_succ]
        refine callH 13 (by kernel_rfl) rfl 66 rfl rfl 248 Tryz.func248 (by kernel_rfl) (by kernel_rfl) #[.tmp 56, .tmp 57, .tmp 59, .tmp 61, .tmp 63, .tmp 65] #[28, 3, 9, 3, 244, 244] rfl #[.pointer (some ⟨g, 0, none⟩), .int .i64 s, .string st.table, .int .i64 p.col, .agg #[.bool p.lo.1, .bool p.lo.2.str, .int .i64 p.lo.2.i, .string p.lo.2.s], .agg #[.bool p.hi.1, .bool p.hi.2.str, .int .i64 p.hi.2.i, .string p.hi.2.s]] (by simp [Act.eval]) (R := fun v w' => v = .tuple #[.slice none 0 0, .int .i64 21] ∧ RX q w' g x M K ∧ Only (fun b => q.S b ∨ K b) w4.drew w') (unhide CL) ?kd
        case kd =>
        rintro _ w6 ⟨rfl, rX, o6⟩
        have S6 : w6.cell? ⟨k, 0, none⟩ = some (.pointer (some ⟨g, 0, none⟩)) ∧ w6.cell? ⟨H + 1, 1, none⟩ = some (.string st.table) ∧ w6.cell? ⟨P, 1, none⟩ = some (.int .i64 p.col) ∧ w6.cell? ⟨P, 2, none⟩ = some (.bool p.lo.1) ∧ w6.cell? ⟨P, 3, none⟩ = some (.bool p.lo.2.str) ∧ w6.cell? ⟨P, 4, none⟩ = some (.int .i64 p.lo.2.i) ∧ w6.cell? ⟨P, 5, none⟩ = some (.string p.lo.2.s) ∧ w6.cell? ⟨P, 6, none⟩ = some (.bool p.hi.1) ∧ w6.cell? ⟨P, 7, none⟩ = some (.bool p.hi.2.str) ∧ w6.cell? ⟨P, 8, none⟩ = some (.int .i64 p.hi.2.i) ∧ w6.cell? ⟨P, 9, none⟩ = some (.string p.hi.2.s) := ⟨cell_keep (hH0.1) o6 (unhide nk), cell_keep (hH0.2.1) o6 (unhide nT), cell_keep (hH0.2.2.1) o6 (unhide nP), cell_keep (hH0.2.2.2.1) o6 (unhide nP), cell_keep (hH0.2.2.2.2.1) o6 (unhide nP), cell_keep (hH0.2.2.2.2.2.1) o6 (unhide nP), cell_keep (hH0.2.2.2.2.2.2.1) o6 (unhide nP), cell_keep (hH0.2.2.2.2.2.2.2.1) o6 (unhide nP), cell_keep (hH0.2.2.2.2.2.2.2.2.1) o6 (unhide nP), cell_keep (hH0.2.2.2.2.2.2.2.2.2.1) o6 (unhide nP), cell_keep (hH0.2.2.2.2.2.2.2.2.2.2) o6 (unhide nP)⟩
        refine ⟨S6, ?_⟩
        try simp only [Act.put, List.setIfInBounds_toArray, List.set_cons_zero, List.set_cons_succ]
        refine takeH 14 52 (v := ?vd14) rfl rfl (by kernel_rfl) (by kernel_rfl) (by kernel_rfl) (fun _ _ _ h => h) (Or.inl ⟨by rfl, ?hd14⟩) S6 ?rd14
        case hd14 => (intro w hSw; clear hSw; go_simp; (try with_reducible rfl))
        case rd14 =>
        try simp only [Act.put, List.setIfInBounds_toArray, List.set_cons_zero, List.set_cons_succ]
        refine takeH 15 67 (v := ?vd15) rfl rfl (by kernel_rfl) (by kernel_rfl) (by kernel_rfl) (fun _ _ _ h => h) (Or.inl ⟨by rfl, ?hd15⟩) S6 ?rd15
        case hd15 => (intro w hSw; clear hSw; go_simp; (try with_reducible rfl))
        case rd15 =>
        try simp only [Act.put, List.setIfInBounds_toArray, List.set_cons_zero, List.set_cons_succ]
        refine takeH 16 68 (v := ?vd16) rfl rfl (by kernel_rfl) (by kernel_rfl) (by kernel_rfl) (fun _ _ _ h => h) (Or.inl ⟨by rfl, ?hd16⟩) S6 ?rd16
        case hd16 => (intro w hSw; clear hSw; go_simp; (try with_reducible rfl))
        case rd16 =>
        try simp only [Act.put, List.setIfInBounds_toArray, List.set_cons_zero, List.set_cons_succ]
        refine takeH 17 11 (v := ?vd17) rfl rfl (by kernel_rfl) (by kernel_rfl) (by kernel_rfl) (fun _ _ _ h => h) (Or.inl ⟨by rfl, ?hd17⟩) S6 ?rd17
        case hd17 => (intro w hSw; clear hSw; go_simp; (try with_reducible rfl))
        case rd17 =>
        try simp only [Act.put, List.setIfInBounds_toArray, List.set_cons_zero, List.set_cons_succ]
        refine takeH 18 13 (v := ?vd18) rfl rfl (by kernel_rfl) (by kernel_rfl) (by kernel_rfl) (fun _ _ _ h => h) (Or.inl ⟨by rfl, ?hd18⟩) S6 ?rd18
        case hd18 => (intro w hSw; clear hSw; go_simp; (try with_reducible rfl))
        case rd18 =>
        try simp only [Act.put, List.setIfInBounds_toArray, List.set_cons_zero, List.set_cons_succ]
        refine wpAnyH_done (by kernel_rfl) ?_ _
        have oD : Only (fun b => q.S b ∨ K b) w4 w6 := (Only.refl (fun b => q.S b ∨ K b) w4).drew.trans o6 (fun _ _ e => e)
        clear hH0 S6
        have Q6 := (unhide HB).1.turn rX oD (unhide nk) (fun b hb => .inl hb)
        have HC := hide (show FqC q w4 k g x M K s st.table p.kind (fetD u p) (.slice none 0 0) (.int .i64 21) w6 from ⟨none, 0, 0, [], rfl, by rw [unhide Htk, h0], RL.nil _ _, by rw [unhide Htk, if_neg (by omega)]; rfl, by rw [unhide Htk, if_neg (by omega)]; exact Q6, oD⟩)
        clear Q6 oD rX o6 CL e0 t1 p0 p1 p2 p3 p4 p5 p6 p7 p8 p9 kl tl pl
        go_wp2_with fail
        go_meet
        exact unhide HC
  case rest =>
  obtain ⟨ra, rn, rc, Z, rfl, rfl, hR, hZ, Q5, o5⟩ := hcut
  rw [unhide Htk] at hZ Q5 ⊢
  have hZ8 : Z.length ≤ 8 := by
    have e := congrArg List.length hZ
    rw [List.length_map] at e
    rw [e]
    split
    · exact fet_len (unhide HOK).2.2.1 p
    · simp
  have hrow : ∀ z ∈ Z, z.2.length = u.cols.length := fun z hz => by
    have h2 : z.2 ∈ Z.map (·.2) := List.mem_map.mpr ⟨z, hz, rfl⟩
    rw [hZ] at h2
    split at h2
    · exact ((unhide HOK).2.2.1.row _ (fet_mem h2)).len
    · cases h2
  have FI5 : FqI H P #[.string tn, .slice ca cn cc, .int .i64 (u.pk : Int), .int .i64 (ixI u.ix)] #[.int .i64 st.kind, .string st.table, .slice a2 st.defs.length c2, .int .i64 st.pk, .slice a4 st.lits.length c4, .bool st.star, .slice a6 st.list.length c6, .slice a7 st.sets.length c7, .slice a8 st.wh.length c8, .string st.order, .bool st.desc, .bool st.hasL, .int .i64 st.lim] #[.int .i64 p.kind, .int .i64 p.col, .bool p.lo.1, .bool p.lo.2.str, .int .i64 p.lo.2.i, .string p.lo.2.s, .bool p.hi.1, .bool p.hi.2.str, .int .i64 p.hi.2.i, .string p.hi.2.s] (.slice ca cn cc) u.cols (.slice a8 st.wh.length c8) st.wh wc := (unhide HB).2.1.keep o5 (fun b hb => by
    have hh := unhide HPH
    rcases hb with c | c | c | c | c
    · exact ((unhide HAP) b (by omega)).SK
    · exact ((unhide HAP) b (by omega)).SK
    · exact ((unhide HAP) b (by omega)).SK
    · exact ((unhide HCA).1 b c).SK
    · exact ((unhide HCA).2 b c).SK)
  have zz := (unhide HB).2.2.size
  have z4 := o5.size
  have HR5 := hide (And.intro hR (And.intro hZ (And.intro Q5 (And.intro FI5 (And.intro hZ8 (And.intro hrow (show Only (fun b => q.S b ∨ K b ∨ b = k) w wc from (unhide HB).2.2.trans (o5.mono (T := fun b => q.S b ∨ K b ∨ b = k) (fun _ _ e => e.imp id .inl)) (fun _ _ e => e))))))))
  have hlo : w.heap.size ≤ w4.heap.size := zz
  have Hlo := hide hlo
  have H45 := hide (show w4.heap.size ≤ wc.heap.size from z4)
  clear hR hZ Q5 FI5 hZ8 hrow o5 HB zz z4 hlo
  generalize wc = w5 at *
  go_upto_region 12 with fail
  go_cut [74] from 69 to 73 (fun ev wx => ev = .bool false ∧ w5 = wx)
  case first =>
    rcases unhide HTK with h0 | h0
    · subst h0
      go_wp2_with fail
      go_meet
      exact ⟨rfl, rfl⟩
    · subst h0
      go_wp2_with fail
      go_meet
      exact ⟨rfl, rfl⟩
  case rest =>
  obtain ⟨rfl, rfl⟩ := hcut
  obtain ⟨m, hm⟩ : ∃ m, Z.length = m := ⟨_, rfl⟩
  have Hm := hide hm
  have hrn : rn = m := by obtain ⟨_, _, e⟩ := ownsRow_shape (unhide HR5).1.own; cases e; exact hm
  subst hrn
  have hm8 : rn ≤ 8 := by rw [← hm]; exact (unhide HR5).2.2.2.2.1
  clear hm
  go_upto_region 15 with fail
  go_loopw [12, 16] (fun hv iv wr => ∃ (i : Nat) (Y : List (Value × List Vl)), iv = .int .i64 i ∧ i ≤ rn ∧ GR 95 1 w5 hv Y.length (Y.map (·.1)) wr ∧ Y = (Z.take i).filter (fun z => matB u.cols st.wh z.2)) (fun _ iv _ => rn + 1 - (intOf iv).toNat)
  case atStart => exact ⟨0, [], rfl, Nat.zero_le _, GR.nil _ _ _, rfl⟩
  case round =>
    obtain ⟨i, Y, rfl, hi, G, hY⟩ := hrel
    obtain ⟨oa, oc, rfl⟩ := ownsRow_shape G.own
    have HG := hide G
    have HY := hide hY
    have hYl : Y.length ≤ rn := by
      rw [hY]
      refine Nat.le_trans (List.length_filter_le _ _) ?_
      rw [List.length_take]; omega
    clear hY
    by_cases hin : i < rn
    · have a1 : decide ((i : Int) < (rn : Int)) = true := decide_eq_true (by omega)
      have a1p : (i : Int) < (rn : Int) := by omega
      obtain ⟨z, hz⟩ := getE (l := Z) (i := i) (by rw [unhide Hm]; exact hin)
      have R1 := (unhide HR5).1.quiet G.ho
      have O1 := (R1.row z (List.mem_of_getElem? hz)).1
      obtain ⟨ua, uc, hu⟩ := O1.shape
      have hun := (unhide HR5).2.2.2.2.2.1 z (List.mem_of_getElem? hz)
      have own2 := R1.own
      rw [unhide Hm] at own2
      obtain ⟨rg, hrg⟩ : ∃ rg, ra = some ⟨rg, 0, none⟩ := by
        rcases own2.2 with ⟨he, h0⟩ | ⟨g', cap', cur, he, _⟩
        · omega
        · have := he
          simp at this
          exact ⟨g', this.1⟩
      subst hrg
      have hc := World.ownsRow.cells own2 (g := rg) rfl i z.1 (by rw [List.getElem?_map, hz]; rfl)
      rw [addr_add, hu] at hc
      have hc : wr.cell? ⟨rg, i, none⟩ = some (.slice ua z.2.length uc) := by simpa using hc
      have F1 := (unhide HR5).2.2.2.1.quiet G.ho
      have s0 : wr.cell? ⟨H, 0, none⟩ = some (.string tn) := F1.sc.cell 0
      have s1 : wr.cell? ⟨H, 1, none⟩ = some (.slice ca cn cc) := F1.sc.cell 1
      have s2 : wr.cell? ⟨H, 2, none⟩ = some (.int .i64 (u.pk : Int)) := F1.sc.cell 2
      have s3 : wr.cell? ⟨H, 3, none⟩ = some (.int .i64 (ixI u.ix)) := F1.sc.cell 3
      have t8 : wr.cell? ⟨H + 1, 8, none⟩ = some (.slice a8 st.wh.length c8) := F1.sv.cell 8
      have oD : Only (fun _ => False) wr wr.drew := (Only.refl _ wr).drew
      rw [hu] at O1
      have C1 := sqmatch_any (tn := tn) (pk := (u.pk : Int)) (ix := ixI u.ix) (F1.oc.keep oD (fun _ _ e => e)) hcl (F1.o8.quiet oD) (by omega) (fun c hc => ((unhide HOK).2.1 c hc).1) (O1.keep oD (fun _ _ e => e)) hun (fun c hc => ((unhide HOK).2.1 c hc).2.2.1)
      unfold schU at C1
      obtain ⟨bm, hbm⟩ : ∃ b, matB u.cols st.wh z.2 = b := ⟨_, rfl⟩
      rw [hbm] at C1
      have C1 := hide C1
      obtain ⟨un, hunn⟩ : ∃ n, z.2.length = n := ⟨_, rfl⟩
      rw [hunn] at hc hu C1
      have HI := hide (And.intro hz (And.intro hbm hu))
      clear hz hbm hu hun O1 R1 own2 G F1 oD hunn
      go_upto_region 17 with fail
      refine wp_region_held_drew (S := (fun w' => w'.cell? ⟨H, 0, none⟩ = some (.string tn) ∧ w'.cell? ⟨H, 1, none⟩ = some (.slice ca cn cc) ∧ w'.cell? ⟨H, 2, none⟩ = some (.int .i64 (u.pk : Int)) ∧ w'.cell? ⟨H, 3, none⟩ = some (.int .i64 (ixI u.ix)) ∧ w'.cell? ⟨H + 1, 8, none⟩ = some (.slice a8 st.wh.length c8) ∧ w'.cell? ⟨rg, i, none⟩ = some (.slice ua un uc))) (by kernel_rfl) ⟨s0, s1, s2, s3, t8, hc⟩ (fun hH0 => ?_)
      refine takeH 0 81 (v := ?vm1) rfl rfl (by kernel_rfl) (by kernel_rfl) (by kernel_rfl) (fun _ _ _ h => h) (Or.inl ⟨by rfl, ?hm1⟩) hH0 ?rm1
      case hm1 => (intro w hSw; obtain ⟨s0, s1, s2, s3, s4, s5⟩ := hSw; go_simp; (try with_reducible rfl))
      case rm1 =>
      try simp only [Act.put, List.setIfInBounds_toArray, List.set_cons_zero, List.set_cons_succ]
      refine takeH 1 82 (v := ?vm2) rfl rfl (by kernel_rfl) (by kernel_rfl) (by kernel_rfl) (fun _ _ _ h => h) (Or.inl ⟨by rfl, ?hm2⟩) hH0 ?rm2
      case hm2 => (intro w hSw; clear hSw; go_simp; (try with_reducible rfl))
      case rm2 =>
      try simp only [Act.put, List.setIfInBounds_toArray, List.set_cons_zero, List.set_cons_succ]
      refine takeH 2 83 (v := ?vm3) rfl rfl (by kernel_rfl) (by kernel_rfl) (by kernel_rfl) (fun _ _ _ h => h) (Or.inl ⟨by rfl, ?hm3⟩) hH0 ?rm3
      case hm3 => (intro w hSw; obtain ⟨s0, s1, s2, s3, s4, s5⟩ := hSw; go_simp; (try with_reducible rfl))
      case rm3 =>
      try simp only [Act.put, List.setIfInBounds_toArray, List.set_cons_zero, List.set_cons_succ]
      refine takeH 3 84 (v := ?vm4) rfl rfl (by kernel_rfl) (by kernel_rfl) (by kernel_rfl) (fun _ _ _ h => h) (Or.inl ⟨by rfl, ?hm4⟩) hH0 ?rm4
      case hm4 => (intro w hSw; clear hSw; go_simp; (try with_reducible rfl))
      case rm4 =>
      try simp only [Act.put, List.setIfInBounds_toArray, List.set_cons_zero, List.set_cons_succ]
      refine takeH 4 85 (v := ?vm5) rfl rfl (by kernel_rfl) (by kernel_rfl) (by kernel_rfl) (fun _ _ _ h => h) (Or.inl ⟨by rfl, ?hm5⟩) hH0 ?rm5
      case hm5 => (intro w hSw; clear hSw; go_simp; (try with_reducible rfl))
      case rm5 =>
      try simp only [Act.put, List.setIfInBounds_toArray, List.set_cons_zero, List.set_cons_succ]
      refine takeH 5 86 (v := ?vm6) rfl rfl (by kernel_rfl) (by kernel_rfl) (by kernel_rfl) (fun _ _ _ h => h) (Or.inl ⟨by rfl, ?hm6⟩) hH0 ?rm6
      case hm6 => (intro w hSw; clear hSw; go_simp; (try with_reducible rfl))
      case rm6 =>
      try simp only [Act.put, List.setIfInBounds_toArray, List.set_cons_zero, List.set_cons_succ]
      refine takeH 6 87 (v := ?vm7) rfl rfl (by kernel_rfl) (by kernel_rfl) (by kernel_rfl) (fun _ _ _ h => h) (Or.inl ⟨by rfl, ?hm7⟩) hH0 ?rm7
      case hm7 => (intro w hSw; obtain ⟨s0, s1, s2, s3, s4, s5⟩ := hSw; go_simp; (try with_reducible rfl))
      case rm7 =>
      try simp only [Act.put, List.setIfInBounds_toArray, List.set_cons_zero, List.set_cons_succ]
      refine callH 7 (by kernel_rfl) rfl 88 rfl rfl 249 Tryz.func249 (by kernel_rfl) (by kernel_rfl) #[.tmp 81, .tmp 83, .tmp 87] #[79, 171, 95] rfl #[.agg #[.string tn, .slice ca cn cc, .int .i64 (u.pk : Int), .int .i64 (ixI u.ix)], .slice a8 st.wh.length c8, .slice ua un uc] (by simp [Act.eval]) (R := fun v w' => v = .bool bm ∧ Only (fun _ => False) wr.drew w') ((unhide C1).mono (by rintro en w' ⟨rfl, o⟩; exact ⟨_, rfl, rfl, o⟩)) ?km
      case km =>
      rintro _ w6 ⟨rfl, o6⟩
      have S6 : w6.cell? ⟨H, 0, none⟩ = some (.string tn) ∧ w6.cell? ⟨H, 1, none⟩ = some (.slice ca cn cc) ∧ w6.cell? ⟨H, 2, none⟩ = some (.int .i64 (u.pk : Int)) ∧ w6.cell? ⟨H, 3, none⟩ = some (.int .i64 (ixI u.ix)) ∧ w6.cell? ⟨H + 1, 8, none⟩ = some (.slice a8 st.wh.length c8) ∧ w6.cell? ⟨rg, i, none⟩ = some (.slice ua un uc) := ⟨o6.cellS hH0.1, o6.cellS hH0.2.1, o6.cellS hH0.2.2.1, o6.cellS hH0.2.2.2.1, o6.cellS hH0.2.2.2.2.1, o6.cellS hH0.2.2.2.2.2⟩
      refine ⟨S6, ?_⟩
      try simp only [Act.put, List.setIfInBounds_toArray, List.set_cons_zero, List.set_cons_succ]
      refine wpAnyH_done (by kernel_rfl) ?_ _
      have oD : Only (fun _ => False) wr w6 := (Only.refl _ wr).drew.trans o6 (fun _ _ e => e)
      have HF := hide oD
      clear hH0 S6 o6 oD
      have HG6 := hide ((unhide HG).far (unhide HF))
      have hc6 := (unhide HF).cellS hc
      have rgl : rg < w6.heap.size := cell_lt hc6
      clear C1 HF hc s0 s1 s2 s3 t8
      cases bm with
      | false =>
        have HY2 := hide (show Y = (Z.take (i + 1)).filter (fun z => matB u.cols st.wh z.2) from by
          rw [List.take_add_one, (unhide HI).1, List.filter_append, ← unhide HY]
          simp [(unhide HI).2.1])
        go_wp2_with fail
        go_roundw
        case rel => exact ⟨i + 1, Y, by go_num, by omega, unhide HG6, unhide HY2⟩
        case measure => simp [intOf]; omega
      | true =>
        have own1 := (unhide HG6).own
        have HP := hide (fun (v' : Value) (w9 : World) (ob : Obj) h1 h2 h3 => GR.push (es := [z.1]) (v' := v') (w' := w9) (o := ob) (n := Y.length + 1) (unhide HG6) h1 h2 h3)
        rw [(unhide HI).2.2] at HP
        have HY2 := hide (show Y ++ [z] = (Z.take (i + 1)).filter (fun z => matB u.cols st.wh z.2) from by
          rw [List.take_add_one, (unhide HI).1, List.filter_append, ← unhide HY]
          simp [(unhide HI).2.1])
        go_wp2_with (at_builtin; refine wpList_append2 _ rfl _ _ 50 rfl 95 i0 _ 1 24 Tryz.underlying50 hi0 hz0 hz1 hz2 rfl (by decide) _ _ _ rfl (own1.alloc _) ⟨w6.heap.size, 0, none⟩ 1 1 [.slice ua un uc] rfl rfl ?e1 ?e2 ?e3 ?e4 ?_)
        case e1 => exact news_ok _ [.slice ua un uc] 95 _ rfl
        case e2 => intro u hu; simp at hu; subst hu; rfl
        case e3 => unfold maxLen; omega
        case e4 => omega
        intro v' w9 hown hgrow hwhere
        have HQ := hide (show GR 95 1 w5 v' (Y ++ [z]).length ((Y ++ [z]).map (·.1)) w9 from by
          rw [List.length_append, List.map_append]
          have := unhide HP v' w9 _ hown hgrow hwhere
          simp only [List.length_singleton, List.map_cons, List.map_nil, (unhide HI).2.2]
          exact this)
        clear hown hgrow hwhere own1 HP
        go_wp2_with fail
        go_roundw
        case rel => exact ⟨i + 1, Y ++ [z], by go_num, by omega, unhide HQ, unhide HY2⟩
        case measure => simp [intOf]; omega
    · have a1 : decide ((i : Int) < (rn : Int)) = false := decide_eq_false (by omega)
      have a1p : ¬ (i : Int) < (rn : Int) := by omega
      have hY : Y = Z.filter (fun z => matB u.cols st.wh z.2) := by rw [unhide HY, List.take_of_length_le (by rw [unhide Hm]; omega)]
      have hlo := unhide Hlo
      have h5 : w4.heap.size ≤ w5.heap.size := unhide H45
      have hYr : ∀ z ∈ Y, OwnV wr z.1 z.2 ∧ ∀ b, z.1.ownBlock = some b → w.heap.size ≤ b := fun z hz => by
        rw [hY] at hz
        have h1 := ((unhide HR5).1.quiet G.ho).row z ((List.mem_filter.mp hz).1)
        exact ⟨h1.1, fun b hb => by have := h1.2 b hb; omega⟩
      have hYa : ApZ Y := by rw [hY]; exact (unhide HR5).1.ap.sublist List.filter_sublist
      have hYm : Y.map (·.2) = (if tk = 0 then (fetD u p).filter (matB u.cols st.wh) else []) := by
        rw [hY]
        have e : (Z.filter (fun z => matB u.cols st.wh z.2)).map (·.2) = (Z.map (·.2)).filter (matB u.cols st.wh) := by rw [List.filter_map]; rfl
        rw [e, (unhide HR5).2.1]
        split
        · rfl
        · rfl
      have hYc : ∀ z ∈ Y, u.pk < z.2.length := fun z hz => by
        rw [hY] at hz
        rw [(unhide HR5).2.2.2.2.2.1 z ((List.mem_filter.mp hz).1)]
        exact (unhide HOK).2.2.1.pkn
      have F1 := (unhide HR5).2.2.2.1.quiet G.ho
      have p0 : wr.cell? ⟨P, 0, none⟩ = some (.int .i64 p.kind) := F1.pl.cell 0
      have pl := F1.pl.lt
      have s2 : wr.cell? ⟨H, 2, none⟩ = some (.int .i64 (u.pk : Int)) := F1.sc.cell 2
      have sl := F1.sc.lt
      have oB := (unhide HR5).2.2.2.2.2.2.trans (G.ho.mono (fun _ _ e => e.elim)) (fun _ _ e => e)
      have Q1 := (unhide HR5).2.2.1.quiet G.ho
      by_cases h3 : p.kind = 3
      · have b3 : (p.kind == 3) = true := by simp [h3]
        have CS := msort_any (c := u.pk) G.own (fun z hz => ⟨(hYr z hz).1, hYc z hz⟩) (by omega)
        have HC := hide (show ∀ w', w'.ownsRow 0 95 1 (.slice oa Y.length oc) Y.length ((sortP (cmpZ u.pk) Y).map (·.1)) → Only (fun b => (Value.slice oa Y.length oc).ownBlock = some b) wr w' → FtP q w k g x M K s st.table p.kind (hitD u st.wh) (.returned (.tuple #[.slice oa Y.length oc, .int .i64 tk])) w' from fun w' h1 h2 => by
          have hb : ∀ b, (Value.slice oa Y.length oc).ownBlock = some b → w5.heap.size ≤ b := G.hb
          have hpm := sortP_perm (cmpZ u.pk) Y
          have hrk : ∀ z ∈ Y, OwnV w' z.1 z.2 := fun z hz => by
            refine (hYr z hz).1.keep h2 (fun b hb2 e => ?_)
            obtain ⟨cc2, hc2⟩ := ownsRow_has G.own e
            exact ownsRow_ne (hYr z hz).1 hc2 (by decide) b hb2 rfl
          refine ⟨oa, _, oc, sortP (cmpZ u.pk) Y, by rw [unhide Htk], ⟨by rw [sortP_len]; exact h1, fun z hz => ⟨hrk z (hpm.mem_iff.mp hz), (hYr z (hpm.mem_iff.mp hz)).2⟩, fun b hb2 => by have := hb b hb2; omega, ?_⟩, ?_, ?_, ?_⟩
          · exact (hpm.pairwise_iff (fun {a b} h c hc1 hc2 => h c hc2 hc1)).mpr hYa
          · rw [unhide Htk]
            have e1 : (sortP (cmpZ u.pk) Y).map (·.2) = sortP (cmpR u.pk) (Y.map (·.2)) := sortP_map (st := cmpR u.pk) (fun z : Value × List Vl => z.2) Y
            rw [e1, hYm]
            by_cases h0 : tk = 0
            · rw [if_pos h0, if_pos h0]; exact (unhide HOK).1.srt h3
            · rw [if_neg h0, if_neg h0]; rfl
          · rw [unhide Htk]
            refine Q1.late h2 (fun b hc => ?_) hb
            have h := (unhide HR5).2.2.1.lts
            rcases hc with c | c | c | c
            · exact h.1 b c
            · rw [c]; exact h.2.1
            · exact h.2.2.1 b c
            · rw [c]; exact h.2.2.2
          · exact oB.lateS h2 (fun b hb2 => by have := hb b hb2; omega))
        have CS := hide CS
        clear h3 hYr hYa hYm hYc F1 oB Q1 G hY HR5
        go_wp2_with fail
        refine (unhide CS).mono ?_
        rintro e w7 ⟨rfl, h1, h2⟩
        have HE := hide (unhide HC w7 h1 h2)
        clear h1 h2 CS HC p0 s2 sl pl
        go_wp2_with fail
        go_ret2
        exact unhide HE
      · have b3 : (p.kind == 3) = false := by simp [h3]
        have HC := hide (show FtP q w k g x M K s st.table p.kind (hitD u st.wh) (.returned (.tuple #[.slice oa Y.length oc, .int .i64 tk])) wr from ⟨oa, _, oc, Y, by rw [unhide Htk], ⟨G.own, hYr, fun b hb2 => by have := G.hb b hb2; omega, hYa⟩, by rw [unhide Htk, hYm, (unhide HOK).1.hit h3], by rw [unhide Htk]; exact Q1, oB⟩)
        clear h3 hYr hYa hYm hYc F1 oB Q1 G hY HR5
        go_wp2_with fail
        go_ret2
        exact unhide HC
end
end Go.Proofs.Qxb6500412aGreat
