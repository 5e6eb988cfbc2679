/-
  OWN WORK. THE TXN LAW: names copied; what an op answers and leaves, in the words of the state.
-/
import Derived.Test.Qxb6500414aGreatXL1
import Derived.Test.Qxb6500414aGreatX23
namespace Go.Proofs.Qxb6500414aGreat
open Go.RowKit Go.PlainAid
set_option linter.unusedSimpArgs false
set_option linter.unusedVariables false

theorem xrun_make_strs (w : World) (n : Nat) (hn : n ≤ 1000) : ∃ cur : Array Value, cur.size = n * 1 ∧ (Instr.makeSlice 52 (.int .i64 n) (.int .i64 n)).run Tryz.prog w = .ok (.slice (some ⟨w.heap.size, 0, none⟩) n n) (w.alloc (.cells cur 9)) := by
  obtain ⟨i, hi, hz, hs, hb⟩ := info_parts Tryz.infoEStr
  have := run_make (P := Tryz.prog) w 52 9 i _ Tryz.underlying52 hi hz .i64 .i64 (n : Int) (n : Int) (by omega) (by omega) (by rw [hb]; omega) (by omega)
  refine ⟨_, ?_, this⟩
  simp [madeCells, Value.cells, hs]
section
variable {w : World} {v : Value}
set_option maxRecDepth 100000 in
theorem cloneNames_any {N : List ByteArray} (O : OwnN w v N) (hl : N.length ≤ 1000) : Calls Tryz.prog 69 #[v] w fun e w' => ∃ z, e = .returned (.slice (some ⟨z, 0, none⟩) N.length N.length) ∧ OwnN w' (.slice (some ⟨z, 0, none⟩) N.length N.length) N ∧ w.heap.size ≤ z ∧ Only (fun _ => False) w w' := by
  obtain ⟨i, hi, hzr, hs, hb⟩ := info_parts Tryz.infoEStr
  obtain ⟨cur0, hcs, hmk⟩ := xrun_make_strs w N.length hl
  have o1 : Only (fun _ => False) w (w.alloc (.cells cur0 9)) := (Only.refl _ w).alloc _
  obtain ⟨w4, cp, Z4, o4⟩ := run_clone Tryz.underlying52 (by rw [hi]; simp [hs]) (ownsRow_keep O o1 (fun _ _ e => e)) (by intro x hx; obtain ⟨y, _, rfl⟩ := List.mem_map.mp hx; rfl) (Has.new w cur0 9) hcs
  obtain ⟨a, cap, hv⟩ := ownsRow_shape O
  have HP := hide (show OwnN w4 (.slice (some ⟨w.heap.size, 0, none⟩) N.length N.length) N ∧ Only (fun _ => False) w w4 from ⟨own_made Z4 (by rw [List.length_map]; omega) hl, o1.fresh o4 (Nat.le_refl _)⟩)
  subst hv
  obtain ⟨n, hn⟩ : ∃ n, N.length = n := ⟨_, rfl⟩
  rw [hn] at hmk cp HP hl ⊢
  clear O o1 Z4 o4 hn hcs
  go_enter Tryz.func69, Tryz.ntmps69
  go_wp2_with fail
  go_ret
  exact ⟨_, rfl, (unhide HP).1, Nat.le_refl _, (unhide HP).2⟩
end
def anE (e : Int) : An := { An.z with e := e }
def anN (n : Int) : An := { An.z with n := n }
/-- The answer of SchemaOf. -/
def anS (D : Db) (nm : ByteArray) : An := match findD D nm with
  | none => { An.z with e := 10, ix := -1 }
  | some t => { An.z with nm := t.nm, cols := t.cols, pk := (t.pk : Int), ix := ixI t.ix }
/-- The answer of View. -/
def anV (M : Mu) (s : Int) (nm : ByteArray) : An := if gdS s then (match findD M.com nm with
  | none => anE 10
  | some _ => { An.z with rows := ((findD (M.see s.toNat) nm).map (fun t => t.rows)).getD [] }) else anE 20
/-- A data call that changes. -/
def MuWr (M : Mu) (s : Int) (nm : ByteArray) (f : Db → Db × Int) (M' : Mu) (a : An) : Prop := (∃ z, z ≠ 0 ∧ M.TkZ s nm 2 z ∧ M' = M ∧ a = anE z) ∨ (M.TkZ s nm 2 0 ∧ M' = (M.setL s.toNat nm 2).setV s.toNat (f (M.see s.toNat)).1 ∧ a = anE (f (M.see s.toNat)).2)
/-- A schema call. -/
def MuSc (M : Mu) (s : Int) (R : Db × Int) (M' : Mu) (a : An) : Prop := (∃ z, z ≠ 0 ∧ (M.AlZ s z ∨ (M.AlZ s 0 ∧ z = R.2)) ∧ M' = M ∧ a = anE z) ∨ (M.AlZ s 0 ∧ R.2 = 0 ∧ M' = M.schema R.1 ∧ a = anE 0)
/-- What an op answers and leaves. -/
inductive MuOp (M : Mu) (a bb cc : Int) (s t : ByteArray) : Int → Mu → An → Prop where
  | bgN (z : Int) (h : (¬ gdS a ∧ z = 20) ∨ (gdS a ∧ M.act a.toNat = true ∧ z = 3)) : MuOp M a bb cc s t 1 M (anE z)
  | bgY (h : gdS a) (h2 : M.act a.toNat = false) : MuOp M a bb cc s t 1 (M.begin a.toNat) (anE 0)
  | coN (h : M.inT a ≠ 0) : MuOp M a bb cc s t 2 M (anE (M.inT a))
  | coY (h : M.inT a = 0) : MuOp M a bb cc s t 2 (M.commit a.toNat) (anE 0)
  | roN (h : M.inT a ≠ 0) : MuOp M a bb cc s t 3 M (anE (M.inT a))
  | roY (h : M.inT a = 0) : MuOp M a bb cc s t 3 (M.roll a.toNat) (anE 0)
  | crt (M' : Mu) (an : An) (h : MuSc M a (crtD M.com s (colsP t) bb) M' an) : MuOp M a bb cc s t 4 M' an
  | drp (M' : Mu) (an : An) (h : MuSc M a (drpD M.com s) M' an) : MuOp M a bb cc s t 5 M' an
  | cix (M' : Mu) (an : An) (h : MuSc M a (cixD M.com s bb) M' an) : MuOp M a bb cc s t 6 M' an
  | ins (M' : Mu) (an : An) (h : MuWr M a s (fun D => insD D s (rowP t)) M' an) : MuOp M a bb cc s t 7 M' an
  | upd (M' : Mu) (an : An) (h : MuWr M a s (fun D => updD D s (rowP t)) M' an) : MuOp M a bb cc s t 8 M' an
  | del (M' : Mu) (an : An) (h : MuWr M a s (fun D => delD D s (fstP t)) M' an) : MuOp M a bb cc s t 9 M' an
  | lkN (z : Int) (h : z ≠ 0) (h2 : M.TkZ a s 1 z) : MuOp M a bb cc s t 10 M (anE z)
  | lkY (h : M.TkZ a s 1 0) : MuOp M a bb cc s t 10 (M.setL a.toNat s 1) { An.z with e := (lkpD (M.see a.toNat) s (fstP t)).2, row := (lkpD (M.see a.toNat) s (fstP t)).1 }
  | scN (z : Int) (h : z ≠ 0) (h2 : M.TkZ a s 1 z) : MuOp M a bb cc s t 11 M (anE z)
  | scY (h : M.TkZ a s 1 0) : MuOp M a bb cc s t 11 (M.setL a.toNat s 1) { An.z with e := (scnD (M.see a.toNat) s bb (bndOf (bits BinOp.and IntKind.i64 cc 1 != 0) (fstP t)) (bndOf (bits BinOp.and IntKind.i64 cc 2 != 0) (sndP t))).2, rows := (scnD (M.see a.toNat) s bb (bndOf (bits BinOp.and IntKind.i64 cc 1 != 0) (fstP t)) (bndOf (bits BinOp.and IntKind.i64 cc 2 != 0) (sndP t))).1 }
  | act : MuOp M a bb cc s t 12 M (anN (if (decide (gdS a) && M.act a.toNat) = true then 1 else 0))
  | lck : MuOp M a bb cc s t 13 M (anN (if gdS a then M.lk a.toNat s else 0))
  | vie : MuOp M a bb cc s t 14 M (anV M a s)
  | sch : MuOp M a bb cc s t 15 M (anS M.com s)
  | tab : MuOp M a bb cc s t 16 M { An.z with names := namesD M.com }
  | chk : MuOp M a bb cc s t 17 M (anN 1)
  | oth (kd : Int) (h : kd < 1 ∨ 18 ≤ kd) : MuOp M a bb cc s t kd M An.z
/-- The kinds that may commit. -/
def cmK (kd : Int) : Prop := kd = 2 ∨ kd = 4 ∨ kd = 5 ∨ kd = 6
/-- What PlayReal leaves. -/
def PrP (q : Gnd) (w : World) (g x : Nat) (M : Mu) (K : Nat → Prop) (kd a bb cc : Int) (s t : ByteArray) (e : Ending) (w' : World) : Prop :=
  ∃ M' an m, e = .returned (.agg (anC m an)) ∧ MuOp M a bb cc s t kd M' an ∧ AnAt w' m an ∧ (∀ k, AnB m k → w.heap.size ≤ k) ∧
    ((∃ K', RX q w' g x M' K' ∧ (∀ k, K' k → K k ∨ w.heap.size ≤ k) ∧ (∀ k, AnB m k → ¬ K' k ∧ ¬ q.A k) ∧ M'.com = M.com ∧ Only (fun k => q.S k ∨ K k) w w') ∨
     (cmK kd ∧ an.e = 0 ∧ m = AnM.z ∧ Rc q w g x M' K w'))
section
variable {q : Gnd} {w w0 w' : World} {g x : Nat} {M M' : Mu} {K : Nat → Prop} {kd a bb cc : Int} {s t : ByteArray} {an : An}
theorem Mu.setL_com (M : Mu) (s : Nat) (nm : ByteArray) (mode : Int) : (M.setL s nm mode).com = M.com := rfl
/-- An answer of numbers alone. -/
theorem PrP.p (h : Rp q w g x M' K w') (hop : MuOp M a bb cc s t kd M' an) (hz : ∃ e n, an = { An.z with e := e, n := n }) (hc : M'.com = M.com) : PrP q w g x M K kd a bb cc s t (.returned (.agg (anC AnM.z an))) w' := by
  obtain ⟨K', r, hk, ho⟩ := h
  obtain ⟨e, n, rfl⟩ := hz
  exact ⟨M', _, AnM.z, rfl, hop, AnAt.zero _ _ _, fun k h => absurd h AnB.z, .inl ⟨K', r, hk, fun k h => absurd h AnB.z, hc, ho⟩⟩
theorem PrP.c (h : Rc q w g x M' K w') (hop : MuOp M a bb cc s t kd M' (anE 0)) (hk : cmK kd) : PrP q w g x M K kd a bb cc s t (.returned (.agg (anC AnM.z (anE 0)))) w' :=
  ⟨M', _, AnM.z, rfl, hop, AnAt.zero _ _ _, fun k h => absurd h AnB.z, .inr ⟨hk, rfl, rfl, h⟩⟩
theorem PrP.low {e : Ending} (o : Only (fun _ => False) w0 w) (hl : ∀ k, K k → k < w0.heap.size) (h : PrP q w g x M K kd a bb cc s t e w') : PrP q w0 g x M K kd a bb cc s t e w' := by
  obtain ⟨M', an, m, he, hop, hA, hb, hh⟩ := h
  have s0 := o.size
  refine ⟨M', an, m, he, hop, hA, fun k h => by have := hb k h; omega, ?_⟩
  rcases hh with ⟨K', r, hk, hs, hc, ho⟩ | ⟨h1, h2, h3, rs, com, wa, wb, K', r, hw, hi, hk, ho⟩
  · exact .inl ⟨K', r, fun k h => (hk k h).imp id (fun c => by omega), hs, hc, (o.mono (fun _ _ e => e.elim)).trans ho (fun _ _ h => h)⟩
  · exact .inr ⟨h1, h2, h3, rs, com, wa, wb, K', r, by omega, hi, fun k h => (hk k h).imp id (fun c => by omega), (o.mono (fun _ _ e => e.elim)).trans ho (fun _ _ h => h)⟩
theorem Only.late {B C : Nat → Prop} {w w' w1 : World} (o : Only B w w') (ho : Only C w' w1) (hC : ∀ k, C k → w.heap.size ≤ k) : Only B w w1 :=
  ((o.mono (T := fun k => B k ∨ w.heap.size ≤ k) (fun k _ h => .inl h)).trans (ho.mono (T := fun k => B k ∨ w.heap.size ≤ k) (fun k _ h => .inr (hC k h))) (fun _ _ h => h)).mono (fun k hl h => h.elim id (fun c => by omega))
end
end Go.Proofs.Qxb6500414aGreat
