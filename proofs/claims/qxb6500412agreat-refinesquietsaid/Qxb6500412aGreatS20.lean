/-
  OWN WORK. QUERY: the planner: span (written by tools/gen_s20.py).
-/
import Derived.Test.Qxb6500412aGreatS19
namespace Go.Proofs.Qxb6500412aGreat
open Go.RowKit Go.PlainAid
set_option linter.unusedSimpArgs false
set_option linter.unusedVariables false

theorem Tryz.sizeSBound : (Tryz.prog.info? 244).map (·.size) = some 4 := by kernel_rfl
def eqB (c : Cm) (e : Qb) : Bool := decide (c.op = 2) && !e.1
def loB (c : Cm) (e : Qb) : Bool := !opL c.op && (!e.1 || decide (vcmp c.lit e.2 > 0))
def hiB (c : Cm) (e : Qb) : Bool := !opG c.op && (!e.1 || decide (vcmp c.lit e.2 < 0))
theorem spE_if {c : Cm} {e : Qb} : spE c e = if eqB c e = true then (true, c.lit) else e := rfl
theorem spLo_if {c : Cm} {e : Qb} : spLo c e = if loB c e = true then (true, c.lit) else e := rfl
theorem spHi_if {c : Cm} {e : Qb} : spHi c e = if hiB c e = true then (true, c.lit) else e := rfl
def bdC (b : Qb) : Array Value := #[.bool b.1, .bool b.2.str, .int .i64 b.2.i, .string b.2.s]
def qbA (b : Qb) : Value := .agg (bdC b)
/-- The round's blocks: the schema's copy, the three results, the three bounds. -/
structure SqnI (w : World) (H : Nat) (sc : Array Value) (cv : Value) (cols : List Cl) (wv : Value) (l : List Cm) (s : Qs) (wr : World) : Prop where
  sc : Has wr H sc 79
  r1 : Has wr (H + 1) (bdC qb0) 244
  r2 : Has wr (H + 2) (bdC qb0) 244
  r3 : Has wr (H + 3) (bdC qb0) 244
  lo : Has wr (H + 4) (bdC s.lo) 244
  hi : Has wr (H + 5) (bdC s.hi) 244
  eq : Has wr (H + 6) (bdC s.eq) 244
  oc : OwnC wr cv cols
  om : OwnM wr wv l
  on : Only (fun _ => False) w wr
section
variable {w wr wx : World} {H : Nat} {sc : Array Value} {cv : Value} {cols : List Cl} {wv : Value} {l : List Cm} {s : Qs}
theorem SqnI.keep (h : SqnI w H sc cv cols wv l s wr) (hH : w.heap.size = H) {B : Nat → Prop} (o : Only B wr wx) (hB : ∀ b, B b → H + 6 < b) (hc : ∀ k, cv.ownBlock = some k → k < H) (hm : ∀ k, wv.ownBlock = some k → k < H) : SqnI w H sc cv cols wv l s wx :=
  ⟨h.sc.keep o (fun c => by have := hB _ c; omega), h.r1.keep o (fun c => by have := hB _ c; omega), h.r2.keep o (fun c => by have := hB _ c; omega), h.r3.keep o (fun c => by have := hB _ c; omega), h.lo.keep o (fun c => by have := hB _ c; omega), h.hi.keep o (fun c => by have := hB _ c; omega), h.eq.keep o (fun c => by have := hB _ c; omega), h.oc.keep o (fun k hk c => by have := hB _ c; have := hc k hk; omega), h.om.keep o (fun k hk c => by have := hB _ c; have := hm k hk; omega), h.on.lateS o (fun k hk => by have := hB _ hk; omega)⟩
theorem SqnI.quiet (h : SqnI w H sc cv cols wv l s wr) (o : Only (fun _ => False) wr wx) : SqnI w H sc cv cols wv l s wx :=
  ⟨h.sc.keep o (fun e => e), h.r1.keep o (fun e => e), h.r2.keep o (fun e => e), h.r3.keep o (fun e => e), h.lo.keep o (fun e => e), h.hi.keep o (fun e => e), h.eq.keep o (fun e => e), h.oc.keep o (fun _ _ e => e), h.om.keep o (fun _ _ e => e), h.on.trans o (fun _ _ e => e)⟩
theorem SqnI.setLo (h : SqnI w H sc cv cols wv l s wr) (hH : w.heap.size = H) (hc : ∀ k, cv.ownBlock = some k → k < H) (hm : ∀ k, wv.ownBlock = some k → k < H) (v : Vl) : SqnI w H sc cv cols wv l { s with lo := (true, v) } (setW (H + 4) [.bool true, .bool v.str, .int .i64 v.i, .string v.s] 0 wr) := by
  have o := only_setW (H + 4) [.bool true, .bool v.str, .int .i64 v.i, .string v.s] 0 wr
  exact ⟨h.sc.keep o (fun (c : H = H + 4) => by omega), h.r1.keep o (fun (c : H + 1 = H + 4) => by omega), h.r2.keep o (fun (c : H + 2 = H + 4) => by omega), h.r3.keep o (fun (c : H + 3 = H + 4) => by omega), has_setAll [.bool true, .bool v.str, .int .i64 v.i, .string v.s] h.lo rfl, h.hi.keep o (fun (c : H + 5 = H + 4) => by omega), h.eq.keep o (fun (c : H + 6 = H + 4) => by omega), h.oc.keep o (fun k hk (c : k = H + 4) => by have := hc k hk; omega), h.om.keep o (fun k hk (c : k = H + 4) => by have := hm k hk; omega), h.on.lateS o (fun k (hk : k = H + 4) => by omega)⟩
theorem SqnI.setHi (h : SqnI w H sc cv cols wv l s wr) (hH : w.heap.size = H) (hc : ∀ k, cv.ownBlock = some k → k < H) (hm : ∀ k, wv.ownBlock = some k → k < H) (v : Vl) : SqnI w H sc cv cols wv l { s with hi := (true, v) } (setW (H + 5) [.bool true, .bool v.str, .int .i64 v.i, .string v.s] 0 wr) := by
  have o := only_setW (H + 5) [.bool true, .bool v.str, .int .i64 v.i, .string v.s] 0 wr
  exact ⟨h.sc.keep o (fun (c : H = H + 5) => by omega), h.r1.keep o (fun (c : H + 1 = H + 5) => by omega), h.r2.keep o (fun (c : H + 2 = H + 5) => by omega), h.r3.keep o (fun (c : H + 3 = H + 5) => by omega), h.lo.keep o (fun (c : H + 4 = H + 5) => by omega), has_setAll [.bool true, .bool v.str, .int .i64 v.i, .string v.s] h.hi rfl, h.eq.keep o (fun (c : H + 6 = H + 5) => by omega), h.oc.keep o (fun k hk (c : k = H + 5) => by have := hc k hk; omega), h.om.keep o (fun k hk (c : k = H + 5) => by have := hm k hk; omega), h.on.lateS o (fun k (hk : k = H + 5) => by omega)⟩
theorem SqnI.setEq (h : SqnI w H sc cv cols wv l s wr) (hH : w.heap.size = H) (hc : ∀ k, cv.ownBlock = some k → k < H) (hm : ∀ k, wv.ownBlock = some k → k < H) (v : Vl) : SqnI w H sc cv cols wv l { s with eq := (true, v) } (setW (H + 6) [.bool true, .bool v.str, .int .i64 v.i, .string v.s] 0 wr) := by
  have o := only_setW (H + 6) [.bool true, .bool v.str, .int .i64 v.i, .string v.s] 0 wr
  exact ⟨h.sc.keep o (fun (c : H = H + 6) => by omega), h.r1.keep o (fun (c : H + 1 = H + 6) => by omega), h.r2.keep o (fun (c : H + 2 = H + 6) => by omega), h.r3.keep o (fun (c : H + 3 = H + 6) => by omega), h.lo.keep o (fun (c : H + 4 = H + 6) => by omega), h.hi.keep o (fun (c : H + 5 = H + 6) => by omega), has_setAll [.bool true, .bool v.str, .int .i64 v.i, .string v.s] h.eq rfl, h.oc.keep o (fun k hk (c : k = H + 6) => by have := hc k hk; omega), h.om.keep o (fun k hk (c : k = H + 6) => by have := hm k hk; omega), h.on.lateS o (fun k (hk : k = H + 6) => by omega)⟩
end
section
variable {w w' : World} {ca wa : Option Addr} {cn cc wn wk : Nat} {cols : List Cl} {l : List Cm} {tn : ByteArray} {pk ix : Int}
theorem sp_start (hC : OwnC w (.slice ca cn cc) cols) (hM : OwnM w (.slice wa wn wk) l) : SqnI w w.heap.size #[.string tn, .slice ca cn cc, .int .i64 pk, .int .i64 ix] (.slice ca cn cc) cols (.slice wa wn wk) l Qs.z (((((((w.alloc (.cells #[.string tn, .slice ca cn cc, .int .i64 pk, .int .i64 ix] 79)).alloc (.cells #[.bool false, .bool false, .int .i64 0, .string ⟨#[]⟩] 244)).alloc (.cells #[.bool false, .bool false, .int .i64 0, .string ⟨#[]⟩] 244)).alloc (.cells #[.bool false, .bool false, .int .i64 0, .string ⟨#[]⟩] 244)).alloc (.cells #[.bool false, .bool false, .int .i64 0, .string ⟨#[]⟩] 244)).alloc (.cells #[.bool false, .bool false, .int .i64 0, .string ⟨#[]⟩] 244)).alloc (.cells #[.bool false, .bool false, .int .i64 0, .string ⟨#[]⟩] 244)) := by
  have o0 : Only (fun _ => False) w (w.alloc (.cells #[.string tn, .slice ca cn cc, .int .i64 pk, .int .i64 ix] 79)) := (Only.refl _ _).alloc _
  have n0 := Has.new w #[.string tn, .slice ca cn cc, .int .i64 pk, .int .i64 ix] 79
  have s0 : w.heap.size = w.heap.size + 0 := by simp
  rw [s0] at n0
  have o1 : Only (fun _ => False) (w.alloc (.cells #[.string tn, .slice ca cn cc, .int .i64 pk, .int .i64 ix] 79)) ((w.alloc (.cells #[.string tn, .slice ca cn cc, .int .i64 pk, .int .i64 ix] 79)).alloc (.cells #[.bool false, .bool false, .int .i64 0, .string ⟨#[]⟩] 244)) := (Only.refl _ _).alloc _
  have n1 := Has.new (w.alloc (.cells #[.string tn, .slice ca cn cc, .int .i64 pk, .int .i64 ix] 79)) #[.bool false, .bool false, .int .i64 0, .string ⟨#[]⟩] 244
  have s1 : (w.alloc (.cells #[.string tn, .slice ca cn cc, .int .i64 pk, .int .i64 ix] 79)).heap.size = w.heap.size + 1 := by simp
  rw [s1] at n1
  have o2 : Only (fun _ => False) ((w.alloc (.cells #[.string tn, .slice ca cn cc, .int .i64 pk, .int .i64 ix] 79)).alloc (.cells #[.bool false, .bool false, .int .i64 0, .string ⟨#[]⟩] 244)) (((w.alloc (.cells #[.string tn, .slice ca cn cc, .int .i64 pk, .int .i64 ix] 79)).alloc (.cells #[.bool false, .bool false, .int .i64 0, .string ⟨#[]⟩] 244)).alloc (.cells #[.bool false, .bool false, .int .i64 0, .string ⟨#[]⟩] 244)) := (Only.refl _ _).alloc _
  have n2 := Has.new ((w.alloc (.cells #[.string tn, .slice ca cn cc, .int .i64 pk, .int .i64 ix] 79)).alloc (.cells #[.bool false, .bool false, .int .i64 0, .string ⟨#[]⟩] 244)) #[.bool false, .bool false, .int .i64 0, .string ⟨#[]⟩] 244
  have s2 : ((w.alloc (.cells #[.string tn, .slice ca cn cc, .int .i64 pk, .int .i64 ix] 79)).alloc (.cells #[.bool false, .bool false, .int .i64 0, .string ⟨#[]⟩] 244)).heap.size = w.heap.size + 2 := by simp
  rw [s2] at n2
  have o3 : Only (fun _ => False) (((w.alloc (.cells #[.string tn, .slice ca cn cc, .int .i64 pk, .int .i64 ix] 79)).alloc (.cells #[.bool false, .bool false, .int .i64 0, .string ⟨#[]⟩] 244)).alloc (.cells #[.bool false, .bool false, .int .i64 0, .string ⟨#[]⟩] 244)) ((((w.alloc (.cells #[.string tn, .slice ca cn cc, .int .i64 pk, .int .i64 ix] 79)).alloc (.cells #[.bool false, .bool false, .int .i64 0, .string ⟨#[]⟩] 244)).alloc (.cells #[.bool false, .bool false, .int .i64 0, .string ⟨#[]⟩] 244)).alloc (.cells #[.bool false, .bool false, .int .i64 0, .string ⟨#[]⟩] 244)) := (Only.refl _ _).alloc _
  have n3 := Has.new (((w.alloc (.cells #[.string tn, .slice ca cn cc, .int .i64 pk, .int .i64 ix] 79)).alloc (.cells #[.bool false, .bool false, .int .i64 0, .string ⟨#[]⟩] 244)).alloc (.cells #[.bool false, .bool false, .int .i64 0, .string ⟨#[]⟩] 244)) #[.bool false, .bool false, .int .i64 0, .string ⟨#[]⟩] 244
  have s3 : (((w.alloc (.cells #[.string tn, .slice ca cn cc, .int .i64 pk, .int .i64 ix] 79)).alloc (.cells #[.bool false, .bool false, .int .i64 0, .string ⟨#[]⟩] 244)).alloc (.cells #[.bool false, .bool false, .int .i64 0, .string ⟨#[]⟩] 244)).heap.size = w.heap.size + 3 := by simp
  rw [s3] at n3
  have o4 : Only (fun _ => False) ((((w.alloc (.cells #[.string tn, .slice ca cn cc, .int .i64 pk, .int .i64 ix] 79)).alloc (.cells #[.bool false, .bool false, .int .i64 0, .string ⟨#[]⟩] 244)).alloc (.cells #[.bool false, .bool false, .int .i64 0, .string ⟨#[]⟩] 244)).alloc (.cells #[.bool false, .bool false, .int .i64 0, .string ⟨#[]⟩] 244)) (((((w.alloc (.cells #[.string tn, .slice ca cn cc, .int .i64 pk, .int .i64 ix] 79)).alloc (.cells #[.bool false, .bool false, .int .i64 0, .string ⟨#[]⟩] 244)).alloc (.cells #[.bool false, .bool false, .int .i64 0, .string ⟨#[]⟩] 244)).alloc (.cells #[.bool false, .bool false, .int .i64 0, .string ⟨#[]⟩] 244)).alloc (.cells #[.bool false, .bool false, .int .i64 0, .string ⟨#[]⟩] 244)) := (Only.refl _ _).alloc _
  have n4 := Has.new ((((w.alloc (.cells #[.string tn, .slice ca cn cc, .int .i64 pk, .int .i64 ix] 79)).alloc (.cells #[.bool false, .bool false, .int .i64 0, .string ⟨#[]⟩] 244)).alloc (.cells #[.bool false, .bool false, .int .i64 0, .string ⟨#[]⟩] 244)).alloc (.cells #[.bool false, .bool false, .int .i64 0, .string ⟨#[]⟩] 244)) #[.bool false, .bool false, .int .i64 0, .string ⟨#[]⟩] 244
  have s4 : ((((w.alloc (.cells #[.string tn, .slice ca cn cc, .int .i64 pk, .int .i64 ix] 79)).alloc (.cells #[.bool false, .bool false, .int .i64 0, .string ⟨#[]⟩] 244)).alloc (.cells #[.bool false, .bool false, .int .i64 0, .string ⟨#[]⟩] 244)).alloc (.cells #[.bool false, .bool false, .int .i64 0, .string ⟨#[]⟩] 244)).heap.size = w.heap.size + 4 := by simp
  rw [s4] at n4
  have o5 : Only (fun _ => False) (((((w.alloc (.cells #[.string tn, .slice ca cn cc, .int .i64 pk, .int .i64 ix] 79)).alloc (.cells #[.bool false, .bool false, .int .i64 0, .string ⟨#[]⟩] 244)).alloc (.cells #[.bool false, .bool false, .int .i64 0, .string ⟨#[]⟩] 244)).alloc (.cells #[.bool false, .bool false, .int .i64 0, .string ⟨#[]⟩] 244)).alloc (.cells #[.bool false, .bool false, .int .i64 0, .string ⟨#[]⟩] 244)) ((((((w.alloc (.cells #[.string tn, .slice ca cn cc, .int .i64 pk, .int .i64 ix] 79)).alloc (.cells #[.bool false, .bool false, .int .i64 0, .string ⟨#[]⟩] 244)).alloc (.cells #[.bool false, .bool false, .int .i64 0, .string ⟨#[]⟩] 244)).alloc (.cells #[.bool false, .bool false, .int .i64 0, .string ⟨#[]⟩] 244)).alloc (.cells #[.bool false, .bool false, .int .i64 0, .string ⟨#[]⟩] 244)).alloc (.cells #[.bool false, .bool false, .int .i64 0, .string ⟨#[]⟩] 244)) := (Only.refl _ _).alloc _
  have n5 := Has.new (((((w.alloc (.cells #[.string tn, .slice ca cn cc, .int .i64 pk, .int .i64 ix] 79)).alloc (.cells #[.bool false, .bool false, .int .i64 0, .string ⟨#[]⟩] 244)).alloc (.cells #[.bool false, .bool false, .int .i64 0, .string ⟨#[]⟩] 244)).alloc (.cells #[.bool false, .bool false, .int .i64 0, .string ⟨#[]⟩] 244)).alloc (.cells #[.bool false, .bool false, .int .i64 0, .string ⟨#[]⟩] 244)) #[.bool false, .bool false, .int .i64 0, .string ⟨#[]⟩] 244
  have s5 : (((((w.alloc (.cells #[.string tn, .slice ca cn cc, .int .i64 pk, .int .i64 ix] 79)).alloc (.cells #[.bool false, .bool false, .int .i64 0, .string ⟨#[]⟩] 244)).alloc (.cells #[.bool false, .bool false, .int .i64 0, .string ⟨#[]⟩] 244)).alloc (.cells #[.bool false, .bool false, .int .i64 0, .string ⟨#[]⟩] 244)).alloc (.cells #[.bool false, .bool false, .int .i64 0, .string ⟨#[]⟩] 244)).heap.size = w.heap.size + 5 := by simp
  rw [s5] at n5
  have o6 : Only (fun _ => False) ((((((w.alloc (.cells #[.string tn, .slice ca cn cc, .int .i64 pk, .int .i64 ix] 79)).alloc (.cells #[.bool false, .bool false, .int .i64 0, .string ⟨#[]⟩] 244)).alloc (.cells #[.bool false, .bool false, .int .i64 0, .string ⟨#[]⟩] 244)).alloc (.cells #[.bool false, .bool false, .int .i64 0, .string ⟨#[]⟩] 244)).alloc (.cells #[.bool false, .bool false, .int .i64 0, .string ⟨#[]⟩] 244)).alloc (.cells #[.bool false, .bool false, .int .i64 0, .string ⟨#[]⟩] 244)) (((((((w.alloc (.cells #[.string tn, .slice ca cn cc, .int .i64 pk, .int .i64 ix] 79)).alloc (.cells #[.bool false, .bool false, .int .i64 0, .string ⟨#[]⟩] 244)).alloc (.cells #[.bool false, .bool false, .int .i64 0, .string ⟨#[]⟩] 244)).alloc (.cells #[.bool false, .bool false, .int .i64 0, .string ⟨#[]⟩] 244)).alloc (.cells #[.bool false, .bool false, .int .i64 0, .string ⟨#[]⟩] 244)).alloc (.cells #[.bool false, .bool false, .int .i64 0, .string ⟨#[]⟩] 244)).alloc (.cells #[.bool false, .bool false, .int .i64 0, .string ⟨#[]⟩] 244)) := (Only.refl _ _).alloc _
  have n6 := Has.new ((((((w.alloc (.cells #[.string tn, .slice ca cn cc, .int .i64 pk, .int .i64 ix] 79)).alloc (.cells #[.bool false, .bool false, .int .i64 0, .string ⟨#[]⟩] 244)).alloc (.cells #[.bool false, .bool false, .int .i64 0, .string ⟨#[]⟩] 244)).alloc (.cells #[.bool false, .bool false, .int .i64 0, .string ⟨#[]⟩] 244)).alloc (.cells #[.bool false, .bool false, .int .i64 0, .string ⟨#[]⟩] 244)).alloc (.cells #[.bool false, .bool false, .int .i64 0, .string ⟨#[]⟩] 244)) #[.bool false, .bool false, .int .i64 0, .string ⟨#[]⟩] 244
  have s6 : ((((((w.alloc (.cells #[.string tn, .slice ca cn cc, .int .i64 pk, .int .i64 ix] 79)).alloc (.cells #[.bool false, .bool false, .int .i64 0, .string ⟨#[]⟩] 244)).alloc (.cells #[.bool false, .bool false, .int .i64 0, .string ⟨#[]⟩] 244)).alloc (.cells #[.bool false, .bool false, .int .i64 0, .string ⟨#[]⟩] 244)).alloc (.cells #[.bool false, .bool false, .int .i64 0, .string ⟨#[]⟩] 244)).alloc (.cells #[.bool false, .bool false, .int .i64 0, .string ⟨#[]⟩] 244)).heap.size = w.heap.size + 6 := by simp
  rw [s6] at n6
  have N0 := n0.keep (((((o1.trans o2 (fun _ _ e => e)).trans o3 (fun _ _ e => e)).trans o4 (fun _ _ e => e)).trans o5 (fun _ _ e => e)).trans o6 (fun _ _ e => e)) (fun e => e)
  have N1 := n1.keep ((((o2.trans o3 (fun _ _ e => e)).trans o4 (fun _ _ e => e)).trans o5 (fun _ _ e => e)).trans o6 (fun _ _ e => e)) (fun e => e)
  have N2 := n2.keep (((o3.trans o4 (fun _ _ e => e)).trans o5 (fun _ _ e => e)).trans o6 (fun _ _ e => e)) (fun e => e)
  have N3 := n3.keep ((o4.trans o5 (fun _ _ e => e)).trans o6 (fun _ _ e => e)) (fun e => e)
  have N4 := n4.keep (o5.trans o6 (fun _ _ e => e)) (fun e => e)
  have N5 := n5.keep o6 (fun e => e)
  have N6 := n6
  have oA := o0.trans (((((o1.trans o2 (fun _ _ e => e)).trans o3 (fun _ _ e => e)).trans o4 (fun _ _ e => e)).trans o5 (fun _ _ e => e)).trans o6 (fun _ _ e => e)) (fun _ _ e => e)
  exact ⟨N0, N1, N2, N3, N4, N5, N6, hC.keep oA (fun _ _ e => e), hM.keep oA (fun _ _ e => e), oA⟩
theorem spres {fn : Func} (h : fn.results = #[.tmp 6, .cell 7 244, .cell 8 244, .cell 9 244]) (tmps : Array Value) {w : World} {a b c : Nat} {A B C : Qb} (ha : tmps.getD 7 undef = .pointer (some ⟨a, 0, none⟩)) (hb : tmps.getD 8 undef = .pointer (some ⟨b, 0, none⟩)) (hc : tmps.getD 9 undef = .pointer (some ⟨c, 0, none⟩)) (hA : Has w a (bdC A) 244) (hB : Has w b (bdC B) 244) (hC : Has w c (bdC C) 244) : (results fn tmps).run Tryz.prog w = .ok (.tuple #[tmps.getD 6 undef, qbA A, qbA B, qbA C]) w := by
  have l1 := run_loadVar_row (P := Tryz.prog) w a 244 244 (bdC A) (0, 0) _ hA Tryz.underlying244 rfl (by rw [Tryz.sizeSBound]; rfl)
  have l2 := run_loadVar_row (P := Tryz.prog) w b 244 244 (bdC B) (0, 0) _ hB Tryz.underlying244 rfl (by rw [Tryz.sizeSBound]; rfl)
  have l3 := run_loadVar_row (P := Tryz.prog) w c 244 244 (bdC C) (0, 0) _ hC Tryz.underlying244 rfl (by rw [Tryz.sizeSBound]; rfl)
  simp only [results, h]
  have ha' : tmps[7]?.getD undef = .pointer (some ⟨a, 0, none⟩) := by simpa using ha
  have hb' : tmps[8]?.getD undef = .pointer (some ⟨b, 0, none⟩) := by simpa using hb
  have hc' : tmps[9]?.getD undef = .pointer (some ⟨c, 0, none⟩) := by simpa using hc
  simp [Sem.run_bind, Result.andThen, ha', hb', hc', asAddr, l1, l2, l3, qbA]
set_option maxRecDepth 100000 in
set_option maxHeartbeats 8000000 in
theorem sqspan_any (hC : OwnC w (.slice ca cn cc) cols) (hcl : cols.length ≤ 100) (hM : OwnM w (.slice wa wn wk) l) (hml : l.length ≤ 1000) (hop : ∀ c ∈ l, okOp c.op) (col : Int) : Calls Tryz.prog 313 #[schU tn (.slice ca cn cc) pk ix, .slice wa wn wk, .int .i64 col] w fun e w' => e = .returned (.tuple #[.int .i64 ((spanD cols l col).n : Int), qbA (spanD cols l col).lo, qbA (spanD cols l col).hi, qbA (spanD cols l col).eq]) ∧ Only (fun _ => False) w w' := by
  unfold schU
  have HS := hide (sp_start (tn := tn) (pk := pk) (ix := ix) hC hM)
  have HC := hide (show ∀ k, (Value.slice ca cn cc).ownBlock = some k → k < w.heap.size from OwnC.lt hC)
  have HM := hide (show ∀ k, (Value.slice wa wn wk).ownBlock = some k → k < w.heap.size from ownsRow_lt hM)
  have HO := hide hop
  obtain ⟨a', cap', hsh⟩ := hM.shape
  have hwn : wn = l.length := by cases hsh; rfl
  subst hwn
  clear hC hM hsh hop
  go_enter Tryz.func313, Tryz.ntmps313
  go_upto_region 4 with fail
  generalize (((((((w.alloc (.cells #[.string tn, .slice ca cn cc, .int .i64 pk, .int .i64 ix] 79)).alloc (.cells #[.bool false, .bool false, .int .i64 0, .string ⟨#[]⟩] 244)).alloc (.cells #[.bool false, .bool false, .int .i64 0, .string ⟨#[]⟩] 244)).alloc (.cells #[.bool false, .bool false, .int .i64 0, .string ⟨#[]⟩] 244)).alloc (.cells #[.bool false, .bool false, .int .i64 0, .string ⟨#[]⟩] 244)).alloc (.cells #[.bool false, .bool false, .int .i64 0, .string ⟨#[]⟩] 244)).alloc (.cells #[.bool false, .bool false, .int .i64 0, .string ⟨#[]⟩] 244)) = w1 at *
  generalize hH : w.heap.size = H at *
  go_loopg [10, 14, 15] (l.length + 1) (fun gk nv jv _ wr => ∃ i : Nat, gk + i = l.length + 1 ∧ jv = .int .i64 i ∧ i ≤ l.length ∧ nv = .int .i64 (((l.take i).foldl (spS cols col) Qs.z).n : Int) ∧ ((l.take i).foldl (spS cols col) Qs.z).n ≤ i ∧ SqnI w H #[.string tn, .slice ca cn cc, .int .i64 pk, .int .i64 ix] (.slice ca cn cc) cols (.slice wa l.length wk) l ((l.take i).foldl (spS cols col) Qs.z) wr)
  case atStart => exact ⟨0, rfl, rfl, Nat.zero_le _, rfl, Nat.le_refl _, unhide HS⟩
  case round =>
    obtain ⟨i, hgk, rfl, hi, rfl, hn, hI⟩ := hrel
    clear HS
    by_cases hs : i < l.length
    · have a1 : decide ((i : Int) < (l.length : Int)) = true := decide_eq_true (by omega)
      have a1p : (i : Int) < (l.length : Int) := by omega
      obtain ⟨c, hx⟩ := getE hs
      have hop := unhide HO c (List.mem_of_getElem? hx)
      obtain ⟨gw, ha, d0, d1, d2, d3, d4⟩ := hI.om.at_ hx
      subst ha
      obtain ⟨s, hs0⟩ : ∃ s, (l.take i).foldl (spS cols col) Qs.z = s := ⟨_, rfl⟩
      have hs1 : (l.take (i + 1)).foldl (spS cols col) Qs.z = spS cols col s c := by
        rw [List.take_add_one, hx, Option.toList_some, List.foldl_append, hs0]
        rfl
      rw [hs0] at hI hn ⊢
      have HK := hide (And.intro hs1 hop)
      have oC : Only (fun _ => False) wr (wr.alloc (.cells #[.string c.col, .int .i64 c.op, .bool c.lit.str, .int .i64 c.lit.i, .string c.lit.s] 300)) := (Only.refl _ wr).alloc _
      have NC := Has.new wr #[.string c.col, .int .i64 c.op, .bool c.lit.str, .int .i64 c.lit.i, .string c.lit.s] 300
      have hkc : H + 6 < wr.heap.size := hI.eq.lt
      have HI := hide (hI.quiet oC)
      have HN := hide NC
      clear hI hs1 hop oC NC hs0 hx
      go_upto_region 7 with fail
      clear d0 d1 d2 d3 d4
      generalize wr.alloc (.cells #[.string c.col, .int .i64 c.op, .bool c.lit.str, .int .i64 c.lit.i, .string c.lit.s] 300) = w2 at *
      generalize wr.heap.size = kc at *
      have k0 : w2.cell? ⟨kc, 0, none⟩ = some (.string c.col) := (unhide HN).cell 0
      have k1 : w2.cell? ⟨kc, 1, none⟩ = some (.int .i64 c.op) := (unhide HN).cell 1
      have k2 : w2.cell? ⟨kc, 2, none⟩ = some (.bool c.lit.str) := (unhide HN).cell 2
      have k3 : w2.cell? ⟨kc, 3, none⟩ = some (.int .i64 c.lit.i) := (unhide HN).cell 3
      have k4 : w2.cell? ⟨kc, 4, none⟩ = some (.string c.lit.s) := (unhide HN).cell 4
      have kl := (unhide HN).lt
      have C1 := squsable_any c w2
      unfold cmU at C1
      obtain ⟨bu, hbu⟩ : ∃ b, useB c = b := ⟨_, rfl⟩
      rw [hbu] at C1
      have Hbu := hide hbu
      have C1 := hide C1
      clear hbu
      go_wp2_with fail
      refine (unhide C1).mono ?_
      rintro e w3 ⟨rfl, o3⟩
      have HI3 := hide ((unhide HI).quiet o3)
      have HN3 := hide ((unhide HN).keep o3 (fun e => e))
      clear C1 o3 k0 k1 k2 k3 k4 kl HI HN
      cases bu with
      | false =>
        have HE := hide (show spS cols col s c = s by unfold spS spB; rw [unhide Hbu]; rfl)
        go_wp2_with fail
        go_roundg (gk - 1)
        case measure => omega
        case rel => exact ⟨i + 1, by omega, by go_num, by omega, by rw [(unhide HK).1, unhide HE], by rw [(unhide HK).1, unhide HE]; omega, by rw [(unhide HK).1, unhide HE]; exact unhide HI3⟩
      | true =>
        have k0 : w3.cell? ⟨kc, 0, none⟩ = some (.string c.col) := (unhide HN3).cell 0
        have kl := (unhide HN3).lt
        have s0 : w3.cell? ⟨H, 0, none⟩ = some (.string tn) := (unhide HI3).sc.cell 0
        have s1 : w3.cell? ⟨H, 1, none⟩ = some (.slice ca cn cc) := (unhide HI3).sc.cell 1
        have s2 : w3.cell? ⟨H, 2, none⟩ = some (.int .i64 pk) := (unhide HI3).sc.cell 2
        have s3 : w3.cell? ⟨H, 3, none⟩ = some (.int .i64 ix) := (unhide HI3).sc.cell 3
        have sl := (unhide HI3).sc.lt
        have C2 := sqcolOf_any (tn := tn) (pk := pk) (ix := ix) (unhide HI3).oc hcl c.col
        unfold schU at C2
        obtain ⟨cl, hcl2⟩ : ∃ x, qcol cols c.col = x := ⟨_, rfl⟩
        rw [hcl2] at C2
        have Hcl := hide hcl2
        have C2 := hide C2
        clear hcl2
        go_wp2_with fail
        refine (unhide C2).mono ?_
        rintro e w4 ⟨rfl, o4⟩
        have HI4 := hide ((unhide HI3).quiet o4)
        have HN4 := hide ((unhide HN3).keep o4 (fun e => e))
        clear C2 o4 k0 kl s0 s1 s2 s3 sl HI3 HN3
        by_cases hcc : cl = col
        · have b2 : (cl != col) = false := by simp [hcc]
          have HE := hide (show spS cols col s c = ⟨s.n + 1, spLo c s.lo, spHi c s.hi, spE c s.eq⟩ by unfold spS spB; rw [unhide Hbu, unhide Hcl, decide_eq_true hcc]; rfl)
          clear hcc
          go_upto_region 10 with fail
          have HI5 := hide (show SqnI w H #[.string tn, .slice ca cn cc, .int .i64 pk, .int .i64 ix] (.slice ca cn cc) cols (.slice (some ⟨gw, 0, none⟩) l.length wk) l ⟨s.n + 1, s.lo, s.hi, s.eq⟩ w4 from ⟨(unhide HI4).sc, (unhide HI4).r1, (unhide HI4).r2, (unhide HI4).r3, (unhide HI4).lo, (unhide HI4).hi, (unhide HI4).eq, (unhide HI4).oc, (unhide HI4).om, (unhide HI4).on⟩)
          have hnb : (s.n : Int) ≤ 1000 := by omega
          clear HI4
          go_cut [47] from 40 to 47 (fun tv wx => tv = .bool (eqB c s.eq) ∧ Only (fun _ => False) w4 wx)
          case first =>
            have k1 : w4.cell? ⟨kc, 1, none⟩ = some (.int .i64 c.op) := (unhide HN4).cell 1
            have k2 : w4.cell? ⟨kc, 2, none⟩ = some (.bool c.lit.str) := (unhide HN4).cell 2
            have k3 : w4.cell? ⟨kc, 3, none⟩ = some (.int .i64 c.lit.i) := (unhide HN4).cell 3
            have k4 : w4.cell? ⟨kc, 4, none⟩ = some (.string c.lit.s) := (unhide HN4).cell 4
            have kl := (unhide HN4).lt
            have b0 : w4.cell? ⟨H + 6, 0, none⟩ = some (.bool s.eq.1) := (unhide HI5).eq.cell 0
            have b1 : w4.cell? ⟨H + 6, 1, none⟩ = some (.bool s.eq.2.str) := (unhide HI5).eq.cell 1
            have b2 : w4.cell? ⟨H + 6, 2, none⟩ = some (.int .i64 s.eq.2.i) := (unhide HI5).eq.cell 2
            have b3 : w4.cell? ⟨H + 6, 3, none⟩ = some (.string s.eq.2.s) := (unhide HI5).eq.cell 3
            have f0 := (unhide HI5).eq.free 0
            have f1 := (unhide HI5).eq.free 1
            have f2 := (unhide HI5).eq.free 2
            have f3 := (unhide HI5).eq.free 3
            have bl := (unhide HI5).eq.lt
            have hop := (unhide HK).2
            obtain ⟨eb, heb⟩ : ∃ b, s.eq.1 = b := ⟨_, rfl⟩
            rw [heb] at b0
            have Heb := hide heb
            clear heb
            by_cases h2 : c.op = 2
            · rw [h2] at k1
              cases eb with
              | false =>
                have HB := hide (show eqB c s.eq = true by unfold eqB; rw [decide_eq_true h2, unhide Heb]; rfl)
                clear h2
                go_wp2_with fail
                go_meet
                exact ⟨by rw [unhide HB], Only.refl _ _⟩
              | true =>
                have HB := hide (show eqB c s.eq = false by unfold eqB; rw [unhide Heb]; simp)
                clear h2
                go_wp2_with fail
                go_meet
                exact ⟨by rw [unhide HB], Only.refl _ _⟩
            · have q2 : (c.op == 2) = false := by simpa using h2
              have HB := hide (show eqB c s.eq = false by unfold eqB; rw [decide_eq_false h2]; rfl)
              clear h2
              go_wp2_with fail
              go_meet
              exact ⟨by rw [unhide HB], Only.refl _ _⟩
          case rest =>
          obtain ⟨htv, hoW⟩ := hcut
          obtain ⟨bb, hbb⟩ : ∃ b, eqB c s.eq = b := ⟨_, rfl⟩
          rw [hbb] at htv
          subst htv
          have HBB := hide hbb
          generalize wc = w5 at *
          have HJ := hide ((unhide HI5).quiet hoW)
          have HL := hide ((unhide HN4).keep hoW (fun e => e))
          clear hbb hoW HI5 HN4
          go_upto_if 47 with fail
          go_cut [] from 47 to 50 (fun wx => SqnI w H #[.string tn, .slice ca cn cc, .int .i64 pk, .int .i64 ix] (.slice ca cn cc) cols (.slice (some ⟨gw, 0, none⟩) l.length wk) l ⟨s.n + 1, s.lo, s.hi, spE c s.eq⟩ wx ∧ Has wx kc #[.string c.col, .int .i64 c.op, .bool c.lit.str, .int .i64 c.lit.i, .string c.lit.s] 300)
          case first =>
            have k1 : w5.cell? ⟨kc, 1, none⟩ = some (.int .i64 c.op) := (unhide HL).cell 1
            have k2 : w5.cell? ⟨kc, 2, none⟩ = some (.bool c.lit.str) := (unhide HL).cell 2
            have k3 : w5.cell? ⟨kc, 3, none⟩ = some (.int .i64 c.lit.i) := (unhide HL).cell 3
            have k4 : w5.cell? ⟨kc, 4, none⟩ = some (.string c.lit.s) := (unhide HL).cell 4
            have kl := (unhide HL).lt
            have b0 : w5.cell? ⟨H + 6, 0, none⟩ = some (.bool s.eq.1) := (unhide HJ).eq.cell 0
            have b1 : w5.cell? ⟨H + 6, 1, none⟩ = some (.bool s.eq.2.str) := (unhide HJ).eq.cell 1
            have b2 : w5.cell? ⟨H + 6, 2, none⟩ = some (.int .i64 s.eq.2.i) := (unhide HJ).eq.cell 2
            have b3 : w5.cell? ⟨H + 6, 3, none⟩ = some (.string s.eq.2.s) := (unhide HJ).eq.cell 3
            have f0 := (unhide HJ).eq.free 0
            have f1 := (unhide HJ).eq.free 1
            have f2 := (unhide HJ).eq.free 2
            have f3 := (unhide HJ).eq.free 3
            have bl := (unhide HJ).eq.lt
            cases bb with
            | true =>
              have FF := hide (show SqnI w H #[.string tn, .slice ca cn cc, .int .i64 pk, .int .i64 ix] (.slice ca cn cc) cols (.slice (some ⟨gw, 0, none⟩) l.length wk) l ⟨s.n + 1, s.lo, s.hi, spE c s.eq⟩ (setW (H + 6) [.bool true, .bool c.lit.str, .int .i64 c.lit.i, .string c.lit.s] 0 w5) ∧ Has (setW (H + 6) [.bool true, .bool c.lit.str, .int .i64 c.lit.i, .string c.lit.s] 0 w5) kc #[.string c.col, .int .i64 c.op, .bool c.lit.str, .int .i64 c.lit.i, .string c.lit.s] 300 by
                rw [spE_if, unhide HBB, if_pos rfl]
                exact ⟨(unhide HJ).setEq hH (unhide HC) (unhide HM) c.lit, (unhide HL).keep (only_setW _ _ _ _) (fun (e : kc = H + 6) => by omega)⟩)
              simp only [setW, Nat.zero_add, Nat.reduceAdd] at FF
              go_wp2_with fail
              go_meet
              exact unhide FF
            | false =>
              have FF := hide (show SqnI w H #[.string tn, .slice ca cn cc, .int .i64 pk, .int .i64 ix] (.slice ca cn cc) cols (.slice (some ⟨gw, 0, none⟩) l.length wk) l ⟨s.n + 1, s.lo, s.hi, spE c s.eq⟩ w5 ∧ Has w5 kc #[.string c.col, .int .i64 c.op, .bool c.lit.str, .int .i64 c.lit.i, .string c.lit.s] 300 by
                rw [spE_if, unhide HBB, if_neg (by decide : ¬ (false = true))]
                exact ⟨unhide HJ, unhide HL⟩)
              go_wp2_with fail
              go_meet
              exact unhide FF
          case rest =>
          generalize wc = w6 at *
          have HI6 := hide hcut.1
          have HN6 := hide hcut.2
          clear hcut HBB HJ HL
          go_upto_region 12 with fail
          go_cut [67] from 51 to 67 (fun tv wx => tv = .bool (loB c s.lo) ∧ Only (fun _ => False) w6 wx)
          case first =>
            have k1 : w6.cell? ⟨kc, 1, none⟩ = some (.int .i64 c.op) := (unhide HN6).cell 1
            have k2 : w6.cell? ⟨kc, 2, none⟩ = some (.bool c.lit.str) := (unhide HN6).cell 2
            have k3 : w6.cell? ⟨kc, 3, none⟩ = some (.int .i64 c.lit.i) := (unhide HN6).cell 3
            have k4 : w6.cell? ⟨kc, 4, none⟩ = some (.string c.lit.s) := (unhide HN6).cell 4
            have kl := (unhide HN6).lt
            have b0 : w6.cell? ⟨H + 4, 0, none⟩ = some (.bool s.lo.1) := (unhide HI6).lo.cell 0
            have b1 : w6.cell? ⟨H + 4, 1, none⟩ = some (.bool s.lo.2.str) := (unhide HI6).lo.cell 1
            have b2 : w6.cell? ⟨H + 4, 2, none⟩ = some (.int .i64 s.lo.2.i) := (unhide HI6).lo.cell 2
            have b3 : w6.cell? ⟨H + 4, 3, none⟩ = some (.string s.lo.2.s) := (unhide HI6).lo.cell 3
            have f0 := (unhide HI6).lo.free 0
            have f1 := (unhide HI6).lo.free 1
            have f2 := (unhide HI6).lo.free 2
            have f3 := (unhide HI6).lo.free 3
            have bl := (unhide HI6).lo.lt
            have hop := (unhide HK).2
            obtain ⟨eb, heb⟩ : ∃ b, s.lo.1 = b := ⟨_, rfl⟩
            rw [heb] at b0
            have Heb := hide heb
            clear heb
            rcases hop.cases_ with hk | hk | hk | hk | hk | hk | hk | hk
            · rw [hk] at k1
              cases eb with
              | false =>
                have HB := hide (show loB c s.lo = true by unfold loB; rw [hk, unhide Heb]; rfl)
                clear hk hop
                go_wp2_with fail
                go_meet
                exact ⟨by rw [unhide HB], Only.refl _ _⟩
              | true =>
                have CC := ecmp_any c.lit s.lo.2 w6
                unfold vlA at CC
                have CC := hide CC
                obtain ⟨vc, hvc⟩ : ∃ x, vcmp c.lit s.lo.2 = x := ⟨_, rfl⟩
                have HB := hide (show loB c s.lo = decide (vc > 0) by unfold loB; rw [hk, unhide Heb, hvc]; rfl)
                rw [hvc] at CC
                clear hk hop hvc
                go_wp2_with fail
                refine (unhide CC).mono ?_
                rintro e9 w7 ⟨rfl, o9⟩
                have HO9 := hide o9
                clear CC o9 k1 k2 k3 k4 kl b0 b1 b2 b3 f0 f1 f2 f3 bl
                go_wp2_with fail
                go_meet
                exact ⟨by rw [unhide HB], unhide HO9⟩
            · rw [hk] at k1
              have HB := hide (show loB c s.lo = false by unfold loB; rw [hk]; rfl)
              clear hk hop
              go_wp2_with fail
              go_meet
              exact ⟨by rw [unhide HB], Only.refl _ _⟩
            · rw [hk] at k1
              cases eb with
              | false =>
                have HB := hide (show loB c s.lo = true by unfold loB; rw [hk, unhide Heb]; rfl)
                clear hk hop
                go_wp2_with fail
                go_meet
                exact ⟨by rw [unhide HB], Only.refl _ _⟩
              | true =>
                have CC := ecmp_any c.lit s.lo.2 w6
                unfold vlA at CC
                have CC := hide CC
                obtain ⟨vc, hvc⟩ : ∃ x, vcmp c.lit s.lo.2 = x := ⟨_, rfl⟩
                have HB := hide (show loB c s.lo = decide (vc > 0) by unfold loB; rw [hk, unhide Heb, hvc]; rfl)
                rw [hvc] at CC
                clear hk hop hvc
                go_wp2_with fail
                refine (unhide CC).mono ?_
                rintro e9 w7 ⟨rfl, o9⟩
                have HO9 := hide o9
                clear CC o9 k1 k2 k3 k4 kl b0 b1 b2 b3 f0 f1 f2 f3 bl
                go_wp2_with fail
                go_meet
                exact ⟨by rw [unhide HB], unhide HO9⟩
            · rw [hk] at k1
              have HB := hide (show loB c s.lo = false by unfold loB; rw [hk]; rfl)
              clear hk hop
              go_wp2_with fail
              go_meet
              exact ⟨by rw [unhide HB], Only.refl _ _⟩
            · rw [hk] at k1
              cases eb with
              | false =>
                have HB := hide (show loB c s.lo = true by unfold loB; rw [hk, unhide Heb]; rfl)
                clear hk hop
                go_wp2_with fail
                go_meet
                exact ⟨by rw [unhide HB], Only.refl _ _⟩
              | true =>
                have CC := ecmp_any c.lit s.lo.2 w6
                unfold vlA at CC
                have CC := hide CC
                obtain ⟨vc, hvc⟩ : ∃ x, vcmp c.lit s.lo.2 = x := ⟨_, rfl⟩
                have HB := hide (show loB c s.lo = decide (vc > 0) by unfold loB; rw [hk, unhide Heb, hvc]; rfl)
                rw [hvc] at CC
                clear hk hop hvc
                go_wp2_with fail
                refine (unhide CC).mono ?_
                rintro e9 w7 ⟨rfl, o9⟩
                have HO9 := hide o9
                clear CC o9 k1 k2 k3 k4 kl b0 b1 b2 b3 f0 f1 f2 f3 bl
                go_wp2_with fail
                go_meet
                exact ⟨by rw [unhide HB], unhide HO9⟩
            · rw [hk] at k1
              have HB := hide (show loB c s.lo = false by unfold loB; rw [hk]; rfl)
              clear hk hop
              go_wp2_with fail
              go_meet
              exact ⟨by rw [unhide HB], Only.refl _ _⟩
            · rw [hk] at k1
              cases eb with
              | false =>
                have HB := hide (show loB c s.lo = true by unfold loB; rw [hk, unhide Heb]; rfl)
                clear hk hop
                go_wp2_with fail
                go_meet
                exact ⟨by rw [unhide HB], Only.refl _ _⟩
              | true =>
                have CC := ecmp_any c.lit s.lo.2 w6
                unfold vlA at CC
                have CC := hide CC
                obtain ⟨vc, hvc⟩ : ∃ x, vcmp c.lit s.lo.2 = x := ⟨_, rfl⟩
                have HB := hide (show loB c s.lo = decide (vc > 0) by unfold loB; rw [hk, unhide Heb, hvc]; rfl)
                rw [hvc] at CC
                clear hk hop hvc
                go_wp2_with fail
                refine (unhide CC).mono ?_
                rintro e9 w7 ⟨rfl, o9⟩
                have HO9 := hide o9
                clear CC o9 k1 k2 k3 k4 kl b0 b1 b2 b3 f0 f1 f2 f3 bl
                go_wp2_with fail
                go_meet
                exact ⟨by rw [unhide HB], unhide HO9⟩
            · rw [hk] at k1
              have HB := hide (show loB c s.lo = false by unfold loB; rw [hk]; rfl)
              clear hk hop
              go_wp2_with fail
              go_meet
              exact ⟨by rw [unhide HB], Only.refl _ _⟩
          case rest =>
          obtain ⟨htv, hoW⟩ := hcut
          obtain ⟨bb, hbb⟩ : ∃ b, loB c s.lo = b := ⟨_, rfl⟩
          rw [hbb] at htv
          subst htv
          have HBB := hide hbb
          generalize wc = w7 at *
          have HJ := hide ((unhide HI6).quiet hoW)
          have HL := hide ((unhide HN6).keep hoW (fun e => e))
          clear hbb hoW HI6 HN6
          go_upto_if 67 with fail
          go_cut [] from 67 to 70 (fun wx => SqnI w H #[.string tn, .slice ca cn cc, .int .i64 pk, .int .i64 ix] (.slice ca cn cc) cols (.slice (some ⟨gw, 0, none⟩) l.length wk) l ⟨s.n + 1, spLo c s.lo, s.hi, spE c s.eq⟩ wx ∧ Has wx kc #[.string c.col, .int .i64 c.op, .bool c.lit.str, .int .i64 c.lit.i, .string c.lit.s] 300)
          case first =>
            have k1 : w7.cell? ⟨kc, 1, none⟩ = some (.int .i64 c.op) := (unhide HL).cell 1
            have k2 : w7.cell? ⟨kc, 2, none⟩ = some (.bool c.lit.str) := (unhide HL).cell 2
            have k3 : w7.cell? ⟨kc, 3, none⟩ = some (.int .i64 c.lit.i) := (unhide HL).cell 3
            have k4 : w7.cell? ⟨kc, 4, none⟩ = some (.string c.lit.s) := (unhide HL).cell 4
            have kl := (unhide HL).lt
            have b0 : w7.cell? ⟨H + 4, 0, none⟩ = some (.bool s.lo.1) := (unhide HJ).lo.cell 0
            have b1 : w7.cell? ⟨H + 4, 1, none⟩ = some (.bool s.lo.2.str) := (unhide HJ).lo.cell 1
            have b2 : w7.cell? ⟨H + 4, 2, none⟩ = some (.int .i64 s.lo.2.i) := (unhide HJ).lo.cell 2
            have b3 : w7.cell? ⟨H + 4, 3, none⟩ = some (.string s.lo.2.s) := (unhide HJ).lo.cell 3
            have f0 := (unhide HJ).lo.free 0
            have f1 := (unhide HJ).lo.free 1
            have f2 := (unhide HJ).lo.free 2
            have f3 := (unhide HJ).lo.free 3
            have bl := (unhide HJ).lo.lt
            cases bb with
            | true =>
              have FF := hide (show SqnI w H #[.string tn, .slice ca cn cc, .int .i64 pk, .int .i64 ix] (.slice ca cn cc) cols (.slice (some ⟨gw, 0, none⟩) l.length wk) l ⟨s.n + 1, spLo c s.lo, s.hi, spE c s.eq⟩ (setW (H + 4) [.bool true, .bool c.lit.str, .int .i64 c.lit.i, .string c.lit.s] 0 w7) ∧ Has (setW (H + 4) [.bool true, .bool c.lit.str, .int .i64 c.lit.i, .string c.lit.s] 0 w7) kc #[.string c.col, .int .i64 c.op, .bool c.lit.str, .int .i64 c.lit.i, .string c.lit.s] 300 by
                rw [spLo_if, unhide HBB, if_pos rfl]
                exact ⟨(unhide HJ).setLo hH (unhide HC) (unhide HM) c.lit, (unhide HL).keep (only_setW _ _ _ _) (fun (e : kc = H + 4) => by omega)⟩)
              simp only [setW, Nat.zero_add, Nat.reduceAdd] at FF
              go_wp2_with fail
              go_meet
              exact unhide FF
            | false =>
              have FF := hide (show SqnI w H #[.string tn, .slice ca cn cc, .int .i64 pk, .int .i64 ix] (.slice ca cn cc) cols (.slice (some ⟨gw, 0, none⟩) l.length wk) l ⟨s.n + 1, spLo c s.lo, s.hi, spE c s.eq⟩ w7 ∧ Has w7 kc #[.string c.col, .int .i64 c.op, .bool c.lit.str, .int .i64 c.lit.i, .string c.lit.s] 300 by
                rw [spLo_if, unhide HBB, if_neg (by decide : ¬ (false = true))]
                exact ⟨unhide HJ, unhide HL⟩)
              go_wp2_with fail
              go_meet
              exact unhide FF
          case rest =>
          generalize wc = w8 at *
          have HI8 := hide hcut.1
          have HN8 := hide hcut.2
          clear hcut HBB HJ HL
          go_upto_region 14 with fail
          go_cut [87] from 71 to 87 (fun tv wx => tv = .bool (hiB c s.hi) ∧ Only (fun _ => False) w8 wx)
          case first =>
            have k1 : w8.cell? ⟨kc, 1, none⟩ = some (.int .i64 c.op) := (unhide HN8).cell 1
            have k2 : w8.cell? ⟨kc, 2, none⟩ = some (.bool c.lit.str) := (unhide HN8).cell 2
            have k3 : w8.cell? ⟨kc, 3, none⟩ = some (.int .i64 c.lit.i) := (unhide HN8).cell 3
            have k4 : w8.cell? ⟨kc, 4, none⟩ = some (.string c.lit.s) := (unhide HN8).cell 4
            have kl := (unhide HN8).lt
            have b0 : w8.cell? ⟨H + 5, 0, none⟩ = some (.bool s.hi.1) := (unhide HI8).hi.cell 0
            have b1 : w8.cell? ⟨H + 5, 1, none⟩ = some (.bool s.hi.2.str) := (unhide HI8).hi.cell 1
            have b2 : w8.cell? ⟨H + 5, 2, none⟩ = some (.int .i64 s.hi.2.i) := (unhide HI8).hi.cell 2
            have b3 : w8.cell? ⟨H + 5, 3, none⟩ = some (.string s.hi.2.s) := (unhide HI8).hi.cell 3
            have f0 := (unhide HI8).hi.free 0
            have f1 := (unhide HI8).hi.free 1
            have f2 := (unhide HI8).hi.free 2
            have f3 := (unhide HI8).hi.free 3
            have bl := (unhide HI8).hi.lt
            have hop := (unhide HK).2
            obtain ⟨eb, heb⟩ : ∃ b, s.hi.1 = b := ⟨_, rfl⟩
            rw [heb] at b0
            have Heb := hide heb
            clear heb
            rcases hop.cases_ with hk | hk | hk | hk | hk | hk | hk | hk
            · rw [hk] at k1
              cases eb with
              | false =>
                have HB := hide (show hiB c s.hi = true by unfold hiB; rw [hk, unhide Heb]; rfl)
                clear hk hop
                go_wp2_with fail
                go_meet
                exact ⟨by rw [unhide HB], Only.refl _ _⟩
              | true =>
                have CC := ecmp_any c.lit s.hi.2 w8
                unfold vlA at CC
                have CC := hide CC
                obtain ⟨vc, hvc⟩ : ∃ x, vcmp c.lit s.hi.2 = x := ⟨_, rfl⟩
                have HB := hide (show hiB c s.hi = decide (vc < 0) by unfold hiB; rw [hk, unhide Heb, hvc]; rfl)
                rw [hvc] at CC
                clear hk hop hvc
                go_wp2_with fail
                refine (unhide CC).mono ?_
                rintro e9 w9 ⟨rfl, o9⟩
                have HO9 := hide o9
                clear CC o9 k1 k2 k3 k4 kl b0 b1 b2 b3 f0 f1 f2 f3 bl
                go_wp2_with fail
                go_meet
                exact ⟨by rw [unhide HB], unhide HO9⟩
            · rw [hk] at k1
              cases eb with
              | false =>
                have HB := hide (show hiB c s.hi = true by unfold hiB; rw [hk, unhide Heb]; rfl)
                clear hk hop
                go_wp2_with fail
                go_meet
                exact ⟨by rw [unhide HB], Only.refl _ _⟩
              | true =>
                have CC := ecmp_any c.lit s.hi.2 w8
                unfold vlA at CC
                have CC := hide CC
                obtain ⟨vc, hvc⟩ : ∃ x, vcmp c.lit s.hi.2 = x := ⟨_, rfl⟩
                have HB := hide (show hiB c s.hi = decide (vc < 0) by unfold hiB; rw [hk, unhide Heb, hvc]; rfl)
                rw [hvc] at CC
                clear hk hop hvc
                go_wp2_with fail
                refine (unhide CC).mono ?_
                rintro e9 w9 ⟨rfl, o9⟩
                have HO9 := hide o9
                clear CC o9 k1 k2 k3 k4 kl b0 b1 b2 b3 f0 f1 f2 f3 bl
                go_wp2_with fail
                go_meet
                exact ⟨by rw [unhide HB], unhide HO9⟩
            · rw [hk] at k1
              cases eb with
              | false =>
                have HB := hide (show hiB c s.hi = true by unfold hiB; rw [hk, unhide Heb]; rfl)
                clear hk hop
                go_wp2_with fail
                go_meet
                exact ⟨by rw [unhide HB], Only.refl _ _⟩
              | true =>
                have CC := ecmp_any c.lit s.hi.2 w8
                unfold vlA at CC
                have CC := hide CC
                obtain ⟨vc, hvc⟩ : ∃ x, vcmp c.lit s.hi.2 = x := ⟨_, rfl⟩
                have HB := hide (show hiB c s.hi = decide (vc < 0) by unfold hiB; rw [hk, unhide Heb, hvc]; rfl)
                rw [hvc] at CC
                clear hk hop hvc
                go_wp2_with fail
                refine (unhide CC).mono ?_
                rintro e9 w9 ⟨rfl, o9⟩
                have HO9 := hide o9
                clear CC o9 k1 k2 k3 k4 kl b0 b1 b2 b3 f0 f1 f2 f3 bl
                go_wp2_with fail
                go_meet
                exact ⟨by rw [unhide HB], unhide HO9⟩
            · rw [hk] at k1
              cases eb with
              | false =>
                have HB := hide (show hiB c s.hi = true by unfold hiB; rw [hk, unhide Heb]; rfl)
                clear hk hop
                go_wp2_with fail
                go_meet
                exact ⟨by rw [unhide HB], Only.refl _ _⟩
              | true =>
                have CC := ecmp_any c.lit s.hi.2 w8
                unfold vlA at CC
                have CC := hide CC
                obtain ⟨vc, hvc⟩ : ∃ x, vcmp c.lit s.hi.2 = x := ⟨_, rfl⟩
                have HB := hide (show hiB c s.hi = decide (vc < 0) by unfold hiB; rw [hk, unhide Heb, hvc]; rfl)
                rw [hvc] at CC
                clear hk hop hvc
                go_wp2_with fail
                refine (unhide CC).mono ?_
                rintro e9 w9 ⟨rfl, o9⟩
                have HO9 := hide o9
                clear CC o9 k1 k2 k3 k4 kl b0 b1 b2 b3 f0 f1 f2 f3 bl
                go_wp2_with fail
                go_meet
                exact ⟨by rw [unhide HB], unhide HO9⟩
            · rw [hk] at k1
              have HB := hide (show hiB c s.hi = false by unfold hiB; rw [hk]; rfl)
              clear hk hop
              go_wp2_with fail
              go_meet
              exact ⟨by rw [unhide HB], Only.refl _ _⟩
            · rw [hk] at k1
              have HB := hide (show hiB c s.hi = false by unfold hiB; rw [hk]; rfl)
              clear hk hop
              go_wp2_with fail
              go_meet
              exact ⟨by rw [unhide HB], Only.refl _ _⟩
            · rw [hk] at k1
              have HB := hide (show hiB c s.hi = false by unfold hiB; rw [hk]; rfl)
              clear hk hop
              go_wp2_with fail
              go_meet
              exact ⟨by rw [unhide HB], Only.refl _ _⟩
            · rw [hk] at k1
              have HB := hide (show hiB c s.hi = false by unfold hiB; rw [hk]; rfl)
              clear hk hop
              go_wp2_with fail
              go_meet
              exact ⟨by rw [unhide HB], Only.refl _ _⟩
          case rest =>
          obtain ⟨htv, hoW⟩ := hcut
          obtain ⟨bb, hbb⟩ : ∃ b, hiB c s.hi = b := ⟨_, rfl⟩
          rw [hbb] at htv
          subst htv
          have HBB := hide hbb
          generalize wc = w9 at *
          have HJ := hide ((unhide HI8).quiet hoW)
          have HL := hide ((unhide HN8).keep hoW (fun e => e))
          clear hbb hoW HI8 HN8
          have k1 : w9.cell? ⟨kc, 1, none⟩ = some (.int .i64 c.op) := (unhide HL).cell 1
          have k2 : w9.cell? ⟨kc, 2, none⟩ = some (.bool c.lit.str) := (unhide HL).cell 2
          have k3 : w9.cell? ⟨kc, 3, none⟩ = some (.int .i64 c.lit.i) := (unhide HL).cell 3
          have k4 : w9.cell? ⟨kc, 4, none⟩ = some (.string c.lit.s) := (unhide HL).cell 4
          have kl := (unhide HL).lt
          have b0 : w9.cell? ⟨H + 5, 0, none⟩ = some (.bool s.hi.1) := (unhide HJ).hi.cell 0
          have b1 : w9.cell? ⟨H + 5, 1, none⟩ = some (.bool s.hi.2.str) := (unhide HJ).hi.cell 1
          have b2 : w9.cell? ⟨H + 5, 2, none⟩ = some (.int .i64 s.hi.2.i) := (unhide HJ).hi.cell 2
          have b3 : w9.cell? ⟨H + 5, 3, none⟩ = some (.string s.hi.2.s) := (unhide HJ).hi.cell 3
          have f0 := (unhide HJ).hi.free 0
          have f1 := (unhide HJ).hi.free 1
          have f2 := (unhide HJ).hi.free 2
          have f3 := (unhide HJ).hi.free 3
          have bl := (unhide HJ).hi.lt
          cases bb with
          | true =>
            have FF := hide (show SqnI w H #[.string tn, .slice ca cn cc, .int .i64 pk, .int .i64 ix] (.slice ca cn cc) cols (.slice (some ⟨gw, 0, none⟩) l.length wk) l ⟨s.n + 1, spLo c s.lo, spHi c s.hi, spE c s.eq⟩ (setW (H + 5) [.bool true, .bool c.lit.str, .int .i64 c.lit.i, .string c.lit.s] 0 w9) ∧ Has (setW (H + 5) [.bool true, .bool c.lit.str, .int .i64 c.lit.i, .string c.lit.s] 0 w9) kc #[.string c.col, .int .i64 c.op, .bool c.lit.str, .int .i64 c.lit.i, .string c.lit.s] 300 by
              rw [spHi_if, unhide HBB, if_pos rfl]
              exact ⟨(unhide HJ).setHi hH (unhide HC) (unhide HM) c.lit, (unhide HL).keep (only_setW _ _ _ _) (fun (e : kc = H + 5) => by omega)⟩)
            simp only [setW, Nat.zero_add, Nat.reduceAdd] at FF
            go_wp2_with fail
            go_roundg (gk - 1)
            case measure => omega
            case rel => exact ⟨i + 1, by omega, by go_num, by omega, by rw [(unhide HK).1, unhide HE]; go_num, by rw [(unhide HK).1, unhide HE]; show s.n + 1 ≤ i + 1; omega, by rw [(unhide HK).1, unhide HE]; exact (unhide FF).1⟩
          | false =>
            have FF := hide (show SqnI w H #[.string tn, .slice ca cn cc, .int .i64 pk, .int .i64 ix] (.slice ca cn cc) cols (.slice (some ⟨gw, 0, none⟩) l.length wk) l ⟨s.n + 1, spLo c s.lo, spHi c s.hi, spE c s.eq⟩ w9 ∧ Has w9 kc #[.string c.col, .int .i64 c.op, .bool c.lit.str, .int .i64 c.lit.i, .string c.lit.s] 300 by
              rw [spHi_if, unhide HBB, if_neg (by decide : ¬ (false = true))]
              exact ⟨unhide HJ, unhide HL⟩)
            go_wp2_with fail
            go_roundg (gk - 1)
            case measure => omega
            case rel => exact ⟨i + 1, by omega, by go_num, by omega, by rw [(unhide HK).1, unhide HE]; go_num, by rw [(unhide HK).1, unhide HE]; show s.n + 1 ≤ i + 1; omega, by rw [(unhide HK).1, unhide HE]; exact (unhide FF).1⟩
        · have b2 : (cl != col) = true := by simpa using hcc
          have HE := hide (show spS cols col s c = s by unfold spS spB; rw [unhide Hbu, unhide Hcl, decide_eq_false hcc]; rfl)
          clear hcc
          go_wp2_with fail
          go_roundg (gk - 1)
          case measure => omega
          case rel => exact ⟨i + 1, by omega, by go_num, by omega, by rw [(unhide HK).1, unhide HE], by rw [(unhide HK).1, unhide HE]; omega, by rw [(unhide HK).1, unhide HE]; exact unhide HI4⟩
    · have hil : i = l.length := by omega
      have a1 : decide ((i : Int) < (l.length : Int)) = false := decide_eq_false (by omega)
      have a1p : ¬ (i : Int) < (l.length : Int) := by omega
      have e0 : (l.take i).foldl (spS cols col) Qs.z = spanD cols l col := by rw [hil, List.take_length]; rfl
      rw [e0] at hI hn ⊢
      obtain ⟨s, hs0⟩ : ∃ s, spanD cols l col = s := ⟨_, rfl⟩
      rw [hs0] at hI hn ⊢
      have x40 : wr.cell? ⟨H + 4, 0, none⟩ = some (.bool s.lo.1) := hI.lo.cell 0
      have x41 : wr.cell? ⟨H + 4, 1, none⟩ = some (.bool s.lo.2.str) := hI.lo.cell 1
      have x42 : wr.cell? ⟨H + 4, 2, none⟩ = some (.int .i64 s.lo.2.i) := hI.lo.cell 2
      have x43 : wr.cell? ⟨H + 4, 3, none⟩ = some (.string s.lo.2.s) := hI.lo.cell 3
      have x50 : wr.cell? ⟨H + 5, 0, none⟩ = some (.bool s.hi.1) := hI.hi.cell 0
      have x51 : wr.cell? ⟨H + 5, 1, none⟩ = some (.bool s.hi.2.str) := hI.hi.cell 1
      have x52 : wr.cell? ⟨H + 5, 2, none⟩ = some (.int .i64 s.hi.2.i) := hI.hi.cell 2
      have x53 : wr.cell? ⟨H + 5, 3, none⟩ = some (.string s.hi.2.s) := hI.hi.cell 3
      have x60 : wr.cell? ⟨H + 6, 0, none⟩ = some (.bool s.eq.1) := hI.eq.cell 0
      have x61 : wr.cell? ⟨H + 6, 1, none⟩ = some (.bool s.eq.2.str) := hI.eq.cell 1
      have x62 : wr.cell? ⟨H + 6, 2, none⟩ = some (.int .i64 s.eq.2.i) := hI.eq.cell 2
      have x63 : wr.cell? ⟨H + 6, 3, none⟩ = some (.string s.eq.2.s) := hI.eq.cell 3
      have x10 : wr.cell? ⟨H + 1, 0, none⟩ = some (.bool false) := hI.r1.cell 0
      have y10 := hI.r1.free 0
      have x11 : wr.cell? ⟨H + 1, 1, none⟩ = some (.bool false) := hI.r1.cell 1
      have y11 := hI.r1.free 1
      have x12 : wr.cell? ⟨H + 1, 2, none⟩ = some (.int .i64 0) := hI.r1.cell 2
      have y12 := hI.r1.free 2
      have x13 : wr.cell? ⟨H + 1, 3, none⟩ = some (.string ⟨#[]⟩) := hI.r1.cell 3
      have y13 := hI.r1.free 3
      have x20 : wr.cell? ⟨H + 2, 0, none⟩ = some (.bool false) := hI.r2.cell 0
      have y20 := hI.r2.free 0
      have x21 : wr.cell? ⟨H + 2, 1, none⟩ = some (.bool false) := hI.r2.cell 1
      have y21 := hI.r2.free 1
      have x22 : wr.cell? ⟨H + 2, 2, none⟩ = some (.int .i64 0) := hI.r2.cell 2
      have y22 := hI.r2.free 2
      have x23 : wr.cell? ⟨H + 2, 3, none⟩ = some (.string ⟨#[]⟩) := hI.r2.cell 3
      have y23 := hI.r2.free 3
      have x30 : wr.cell? ⟨H + 3, 0, none⟩ = some (.bool false) := hI.r3.cell 0
      have y30 := hI.r3.free 0
      have x31 : wr.cell? ⟨H + 3, 1, none⟩ = some (.bool false) := hI.r3.cell 1
      have y31 := hI.r3.free 1
      have x32 : wr.cell? ⟨H + 3, 2, none⟩ = some (.int .i64 0) := hI.r3.cell 2
      have y32 := hI.r3.free 2
      have x33 : wr.cell? ⟨H + 3, 3, none⟩ = some (.string ⟨#[]⟩) := hI.r3.cell 3
      have y33 := hI.r3.free 3
      have lt0 := hI.eq.lt
      have o1 := only_setW (H + 1) [.bool s.lo.1, .bool s.lo.2.str, .int .i64 s.lo.2.i, .string s.lo.2.s] 0 wr
      have o2 := only_setW (H + 2) [.bool s.hi.1, .bool s.hi.2.str, .int .i64 s.hi.2.i, .string s.hi.2.s] 0 (setW (H + 1) [.bool s.lo.1, .bool s.lo.2.str, .int .i64 s.lo.2.i, .string s.lo.2.s] 0 wr)
      have o3 := only_setW (H + 3) [.bool s.eq.1, .bool s.eq.2.str, .int .i64 s.eq.2.i, .string s.eq.2.s] 0 (setW (H + 2) [.bool s.hi.1, .bool s.hi.2.str, .int .i64 s.hi.2.i, .string s.hi.2.s] 0 (setW (H + 1) [.bool s.lo.1, .bool s.lo.2.str, .int .i64 s.lo.2.i, .string s.lo.2.s] 0 wr))
      have g1 := has_setAll [.bool s.lo.1, .bool s.lo.2.str, .int .i64 s.lo.2.i, .string s.lo.2.s] hI.r1 rfl
      have g2 := has_setAll [.bool s.hi.1, .bool s.hi.2.str, .int .i64 s.hi.2.i, .string s.hi.2.s] (hI.r2.keep o1 (fun (c : H + 2 = H + 1) => by omega)) rfl
      have g3 := has_setAll [.bool s.eq.1, .bool s.eq.2.str, .int .i64 s.eq.2.i, .string s.eq.2.s] ((hI.r3.keep o1 (fun (c : H + 3 = H + 1) => by omega)).keep o2 (fun (c : H + 3 = H + 2) => by omega)) rfl
      have od : Only (fun _ => False) (setW (H + 3) [.bool s.eq.1, .bool s.eq.2.str, .int .i64 s.eq.2.i, .string s.eq.2.s] 0 (setW (H + 2) [.bool s.hi.1, .bool s.hi.2.str, .int .i64 s.hi.2.i, .string s.hi.2.s] 0 (setW (H + 1) [.bool s.lo.1, .bool s.lo.2.str, .int .i64 s.lo.2.i, .string s.lo.2.s] 0 wr))) (setW (H + 3) [.bool s.eq.1, .bool s.eq.2.str, .int .i64 s.eq.2.i, .string s.eq.2.s] 0 (setW (H + 2) [.bool s.hi.1, .bool s.hi.2.str, .int .i64 s.hi.2.i, .string s.hi.2.s] 0 (setW (H + 1) [.bool s.lo.1, .bool s.lo.2.str, .int .i64 s.lo.2.i, .string s.lo.2.s] 0 wr))).drew := (Only.refl _ _).drew
      have FF := hide (show Has (setW (H + 3) [.bool s.eq.1, .bool s.eq.2.str, .int .i64 s.eq.2.i, .string s.eq.2.s] 0 (setW (H + 2) [.bool s.hi.1, .bool s.hi.2.str, .int .i64 s.hi.2.i, .string s.hi.2.s] 0 (setW (H + 1) [.bool s.lo.1, .bool s.lo.2.str, .int .i64 s.lo.2.i, .string s.lo.2.s] 0 wr))).drew (H + 1) (bdC s.lo) 244 ∧ Has (setW (H + 3) [.bool s.eq.1, .bool s.eq.2.str, .int .i64 s.eq.2.i, .string s.eq.2.s] 0 (setW (H + 2) [.bool s.hi.1, .bool s.hi.2.str, .int .i64 s.hi.2.i, .string s.hi.2.s] 0 (setW (H + 1) [.bool s.lo.1, .bool s.lo.2.str, .int .i64 s.lo.2.i, .string s.lo.2.s] 0 wr))).drew (H + 2) (bdC s.hi) 244 ∧ Has (setW (H + 3) [.bool s.eq.1, .bool s.eq.2.str, .int .i64 s.eq.2.i, .string s.eq.2.s] 0 (setW (H + 2) [.bool s.hi.1, .bool s.hi.2.str, .int .i64 s.hi.2.i, .string s.hi.2.s] 0 (setW (H + 1) [.bool s.lo.1, .bool s.lo.2.str, .int .i64 s.lo.2.i, .string s.lo.2.s] 0 wr))).drew (H + 3) (bdC s.eq) 244 ∧ Only (fun _ => False) w (setW (H + 3) [.bool s.eq.1, .bool s.eq.2.str, .int .i64 s.eq.2.i, .string s.eq.2.s] 0 (setW (H + 2) [.bool s.hi.1, .bool s.hi.2.str, .int .i64 s.hi.2.i, .string s.hi.2.s] 0 (setW (H + 1) [.bool s.lo.1, .bool s.lo.2.str, .int .i64 s.lo.2.i, .string s.lo.2.s] 0 wr))).drew from ⟨((g1.keep o2 (fun (c : H + 1 = H + 2) => by omega)).keep o3 (fun (c : H + 1 = H + 3) => by omega)).keep od (fun e => e), (g2.keep o3 (fun (c : H + 2 = H + 3) => by omega)).keep od (fun e => e), g3.keep od (fun e => e), ((hI.on.lateS o1 (fun k (hk : k = H + 1) => by omega)).lateS o2 (fun k (hk : k = H + 2) => by omega)).lateS o3 (fun k (hk : k = H + 3) => by omega) |>.trans od (fun _ _ e => e)⟩)
      simp only [setW, Nat.zero_add, Nat.reduceAdd] at FF
      clear o1 o2 o3 g1 g2 g3 od
      have Hs0 := hide hs0
      clear hI hs0 e0 hil
      go_upto_region 16 with fail
      go_region
      go_wp2_with fail
      refine bodyPost_ret (spres rfl _ rfl rfl rfl (unhide FF).1 (unhide FF).2.1 (unhide FF).2.2.1) rfl ?_
      exact ⟨by rw [unhide Hs0]; rfl, (unhide FF).2.2.2⟩
end
end Go.Proofs.Qxb6500412aGreat
