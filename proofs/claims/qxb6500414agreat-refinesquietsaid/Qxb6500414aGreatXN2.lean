/-
  OWN WORK. TXN's MODEL: txnm.Mgr: Lookup, Scan, View, Active, LockOf, Tables, SchemaOf (written by tools/gen_xn2.py).
-/
import Derived.Test.Qxb6500414aGreatXN1
namespace Go.Proofs.Qxb6500414aGreat
open Go.RowKit Go.PlainAid
set_option linter.unusedSimpArgs false
set_option linter.unusedVariables false

/-- What an op of the model leaves behind a mark, what it hands out lying in B. -/
def PmB (w : World) (m : Nat) (M : Mu) (U : Db) (H : Nat → Prop) (kd a bb cc : Int) (s t : ByteArray) (an : An) (B : Nat → Prop) (w' : World) : Prop :=
  ∃ M' hist' H', MuOp M a bb cc s t kd M' an ∧ NX w' m M' U hist' H' ∧ (∀ b, H' b → H b ∨ w.heap.size ≤ b) ∧ (∀ b, B b → w.heap.size ≤ b ∧ ¬ H' b) ∧ Only H w w' ∧ ((hist' = none ∧ M'.com = M.com) ∨ hist' = some M'.com)
section
variable {w w1 w' : World} {m : Nat} {M M' : Mu} {U : Db} {hist : Option Db} {H B : Nat → Prop} {kd a bb cc : Int} {s t : ByteArray} {an : An}
theorem PmB.low (o : Only (fun _ => False) w w1) (h : PmB w1 m M U H kd a bb cc s t an B w') : PmB w m M U H kd a bb cc s t an B w' := by
  obtain ⟨M', hist', H', h1, h2, h3, hb, h4, h5⟩ := h
  have := o.size
  exact ⟨M', hist', H', h1, h2, fun b hb => (h3 b hb).imp id (fun c => by omega), fun b c => ⟨by have := hb b c; omega, (hb b c).2⟩, (o.mono (fun _ _ e => e.elim)).trans h4 (fun _ _ e => e), h5⟩
theorem PmQ.b (h : PmQ w m M U H kd a bb cc s t an w') : PmB w m M U H kd a bb cc s t an (AnB AnM.z) w' := by
  obtain ⟨M', hist', H', h1, h2, h3, h4, h5⟩ := h
  exact ⟨M', hist', H', h1, h2, h3, fun b c => absurd c AnB.z, h4, h5⟩
theorem NX.got (h : NX w m M U hist H) (x : Int) : NX (w.setCell ⟨m, 3, none⟩ (.int .i64 x)) m M U hist H := by
  obtain ⟨k, bv, hv, got, P, O, h1, h2, h3, h4, h5, h6⟩ := h.ex
  have o1 : Only (fun b => b = m) w (w.setCell ⟨m, 3, none⟩ (.int .i64 x)) := only1 _ _
  exact ⟨⟨k, bv, hv, x, P, O, h1.setCell 3 (.int .i64 x), h2.keep o1 (fun b hb e => (h5 b hb).2.2 e), h3.keep o1 (fun b hb e => (h6 b hb).2 e), h4.keep o1 (fun b hb e => (h6 b hb).2 e), h5, h6⟩, h.hm, fun b hb => Nat.lt_of_lt_of_le (h.lt b hb) o1.size⟩
theorem NX.gotc (h : NX w m M U hist H) : ∃ x : Int, w.cell? ⟨m, 3, none⟩ = some (.int .i64 x) ∧ w.frozen? ⟨m, 3, none⟩ = false := by
  obtain ⟨k, bv, hv, got, P, O, h1, h2, h3, h4, h5, h6⟩ := h.ex
  exact ⟨got, by rw [h1.cell]; rfl, h1.free 3⟩
theorem PmB.got (h : PmB w m M U H kd a bb cc s t an B w') (x : Int) (hm : H m) (hB : ∀ b, B b → b ≠ m) : PmB w m M U H kd a bb cc s t an B (w'.setCell ⟨m, 3, none⟩ (.int .i64 x)) := by
  obtain ⟨M', hist', H', h1, h2, h3, hb, h4, h5⟩ := h
  exact ⟨M', hist', H', h1, h2.got x, h3, hb, h4.trans (only1 (p := m) _ _) (fun b _ e => by have e' : b = m := e; rw [e']; exact hm), h5⟩
theorem PmB.gotc (h : PmB w m M U H kd a bb cc s t an B w') : ∃ x : Int, w'.cell? ⟨m, 3, none⟩ = some (.int .i64 x) ∧ w'.frozen? ⟨m, 3, none⟩ = false ∧ m < w'.heap.size := by
  obtain ⟨M', hist', H', h1, h2, h3, hb, h4, h5⟩ := h
  obtain ⟨x, e1, e2⟩ := h2.gotc
  exact ⟨x, e1, e2, h2.ml⟩
theorem PmB.nm (h : PmB w m M U H kd a bb cc s t an B w') (hm : H m) (hl : m < w.heap.size) : ∀ b, B b → b ≠ m := by
  obtain ⟨M', hist', H', h1, h2, h3, hb, h4, h5⟩ := h
  intro b c e
  have := (hb b c).1
  omega
/-- A reader's answer. -/
theorem LkQ.op {k : Nat} {P : Nat → Prop} {R : World → Ending → World → Prop} {x : Ending} (hop : MuOp M a bb cc s t kd M' an) (hc : M'.com = M.com) (hh : ∀ {M' : Mu} {P' B : Nat → Prop} {w' : World}, MX w' k M' P' → (∀ b, P' b → P b ∨ w.heap.size ≤ b) → Only B w w' → (∀ b, B b → P b) → NX w' m M' U none (Ext H w w') ∧ Only H w w') (hR : ∀ w1, R w1 x w' → Only (fun _ => False) w1 w' ∧ ∀ b, B b → w1.heap.size ≤ b) (h : LkQ w k M' P R x w') : PmB w m M U H kd a bb cc s t an B w' := by
  obtain ⟨w1, X, o1, hx⟩ := h
  obtain ⟨o2, hb⟩ := hR w1 hx
  obtain ⟨N, oN⟩ := hh X (fun b hb => Ext.old hb) o1 (fun _ h => h)
  have z1 := o1.size
  refine ⟨M', none, Ext H w w1, hop, N.quiet o2, fun b hb => Ext.old hb, fun b c => ⟨by have := hb b c; omega, fun d => ?_⟩, oN.trans (o2.mono (T := H) (fun _ _ e => e.elim)) (fun _ _ e => e), .inl ⟨rfl, hc⟩⟩
  have := hb b c
  have := N.lt b d
  omega
/-- The answer of Lookup. -/
def NlP (w : World) (m : Nat) (M : Mu) (U : Db) (H : Nat → Prop) (a bb cc : Int) (s t : ByteArray) (x : Ending) (w' : World) : Prop :=
  ∃ (ra : Option Addr) (rn rc : Nat) (z : Int) (row : List Vl), x = .returned (.tuple #[.slice ra rn rc, .int .i64 z]) ∧ OwnV w' (.slice ra rn rc) row ∧ row.length ≤ 1000 ∧ PmB w m M U H 10 a bb cc s t { An.z with e := z, row := row } (fun b => (Value.slice ra rn rc).ownBlock = some b) w'
/-- The answer of Scan, of View. -/
def NsP (kd : Int) (w : World) (m : Nat) (M : Mu) (U : Db) (H : Nat → Prop) (a bb cc : Int) (s t : ByteArray) (x : Ending) (w' : World) : Prop :=
  ∃ (ra : Option Addr) (rn rc : Nat) (z : Int) (Z : List (Value × List Vl)), x = .returned (.tuple #[.slice ra rn rc, .int .i64 z]) ∧ w'.ownsRow 0 47 1 (.slice ra rn rc) Z.length (Z.map (·.1)) ∧ (∀ y ∈ Z, OwnV w' y.1 y.2) ∧ Z.length ≤ 1000 ∧ (∀ y ∈ Z, y.2.length ≤ 1000) ∧ PmB w m M U H kd a bb cc s t { An.z with e := z, rows := Z.map (·.2) } (fun b => (Value.slice ra rn rc).ownBlock = some b ∨ ∃ y ∈ Z, y.1.ownBlock = some b) w'
theorem frv_b {w1 : World} {r : List Vl} {z : Int} {v : Value} {x : Ending} (h : FrV w1 r z (.returned (.tuple #[v, .int .i64 z])) w') : OwnV w' v r ∧ Only (fun _ => False) w1 w' ∧ ∀ b, v.ownBlock = some b → w1.heap.size ≤ b := by
  obtain ⟨v', hx, h1, h2, h3⟩ := h
  simp only [Ending.returned.injEq, Value.tuple.injEq, Array.mk.injEq, List.cons.injEq, and_true] at hx
  rw [hx]
  exact ⟨h1, h3, h2⟩
theorem XlP.op {k : Nat} {P : Nat → Prop} {x : Ending} (ok : MuOk M) (hh : ∀ {M' : Mu} {P' B : Nat → Prop} {w' : World}, MX w' k M' P' → (∀ b, P' b → P b ∨ w.heap.size ≤ b) → Only B w w' → (∀ b, B b → P b) → NX w' m M' U none (Ext H w w') ∧ Only H w w') (h : XlP w k M P a s (fstP t) x w') : NlP w m M U H a bb cc s t x w' := by
  rcases h with ⟨z, z0, hz, w1, X, o1, hx⟩ | ⟨hz, w1, X, o1, hx⟩
  · obtain ⟨v, rfl, hO, hN, o2⟩ := hx
    obtain ⟨ra, rc, rfl⟩ := hO.shape
    exact ⟨ra, _, rc, z, [], rfl, hO, by simp, LkQ.op (R := fun w1 x w' => Only (fun _ => False) w1 w' ∧ ∀ b, (Value.slice ra ([] : List Vl).length rc).ownBlock = some b → w1.heap.size ≤ b) (x := .returned (.tuple #[])) (.lkN z z0 hz) rfl hh (fun w1 h => h) ⟨w1, X, o1, o2, hN⟩⟩
  · obtain ⟨v, rfl, hO, hN, o2⟩ := hx
    obtain ⟨ra, rc, rfl⟩ := hO.shape
    obtain ⟨n, rfl, hn⟩ := TkZ_good hz
    exact ⟨ra, _, rc, _, _, rfl, hO, xlkp_len (by rw [show ((n : Nat) : Int).toNat = n by omega]; exact ok.gs n hn) _ _, LkQ.op (R := fun w1 x w' => Only (fun _ => False) w1 w' ∧ ∀ b, (Value.slice ra _ rc).ownBlock = some b → w1.heap.size ≤ b) (x := .returned (.tuple #[])) (.lkY hz) rfl hh (fun w1 h => h) ⟨w1, X, o1, o2, hN⟩⟩
theorem XsP.op {k : Nat} {P : Nat → Prop} {x : Ending} (ok : MuOk M) (hh : ∀ {M' : Mu} {P' B : Nat → Prop} {w' : World}, MX w' k M' P' → (∀ b, P' b → P b ∨ w.heap.size ≤ b) → Only B w w' → (∀ b, B b → P b) → NX w' m M' U none (Ext H w w') ∧ Only H w w') (h : XsP w k M P a s bb (bndOf (bits BinOp.and IntKind.i64 cc 1 != 0) (fstP t)) (bndOf (bits BinOp.and IntKind.i64 cc 2 != 0) (sndP t)) x w') : NsP 11 w m M U H a bb cc s t x w' := by
  rcases h with ⟨z, z0, hz, w1, X, o1, hx⟩ | ⟨hz, w1, X, o1, hx⟩
  · obtain ⟨v, Z, rfl, hZ, own, hr, hN, o2⟩ := hx
    obtain ⟨ra, rc, rfl⟩ := ownsRow_shape own
    have hZ0 : Z = [] := by simpa using hZ
    subst hZ0
    exact ⟨ra, _, rc, z, [], rfl, own, fun y hy => (by cases hy), by simp, fun y hy => (by cases hy), LkQ.op (R := fun w1 x w' => Only (fun _ => False) w1 w' ∧ ∀ b, ((Value.slice ra ([] : List (Value × List Vl)).length rc).ownBlock = some b ∨ ∃ y ∈ ([] : List (Value × List Vl)), y.1.ownBlock = some b) → w1.heap.size ≤ b) (x := .returned (.tuple #[])) (.scN z z0 hz) rfl hh (fun w1 h => h) ⟨w1, X, o1, o2, fun b hb => hb.elim (hN b) (fun ⟨y, hy, _⟩ => (by cases hy))⟩⟩
  · obtain ⟨v, Z, rfl, hZ, own, hr, hN, o2⟩ := hx
    obtain ⟨ra, rc, rfl⟩ := ownsRow_shape own
    obtain ⟨n, rfl, hn⟩ := TkZ_good hz
    have bd := scn_bd (D := M.see ((n : Nat) : Int).toNat) (by rw [show ((n : Nat) : Int).toNat = n by omega]; exact ok.gs n hn) s bb (bndOf (bits BinOp.and IntKind.i64 cc 1 != 0) (fstP t)) (bndOf (bits BinOp.and IntKind.i64 cc 2 != 0) (sndP t))
    rw [← hZ] at bd
    refine ⟨ra, _, rc, _, Z, rfl, own, fun y hy => (hr y hy).1, by have := bd.1; rw [List.length_map] at this; omega, fun y hy => bd.2 y.2 (List.mem_map.mpr ⟨y, hy, rfl⟩), ?_⟩
    rw [hZ]
    exact LkQ.op (R := fun w1 x w' => Only (fun _ => False) w1 w' ∧ ∀ b, ((Value.slice ra Z.length rc).ownBlock = some b ∨ ∃ y ∈ Z, y.1.ownBlock = some b) → w1.heap.size ≤ b) (x := .returned (.tuple #[])) (.scY hz) rfl hh (fun w1 h => h) ⟨w1, X, o1, o2, fun b hb => hb.elim (hN b) (fun ⟨y, hy, h⟩ => (hr y hy).2 b h)⟩
theorem NlP.low {x : Ending} (o : Only (fun _ => False) w w1) (h : NlP w1 m M U H a bb cc s t x w') : NlP w m M U H a bb cc s t x w' := by
  obtain ⟨ra, rn, rc, z, row, hx, h1, h2, h3⟩ := h
  exact ⟨ra, rn, rc, z, row, hx, h1, h2, h3.low o⟩
theorem NsP.low {x : Ending} (o : Only (fun _ => False) w w1) (h : NsP kd w1 m M U H a bb cc s t x w') : NsP kd w m M U H a bb cc s t x w' := by
  obtain ⟨ra, rn, rc, z, Z, hx, h1, h2, h3, h4, h5⟩ := h
  exact ⟨ra, rn, rc, z, Z, hx, h1, h2, h3, h4, h5.low o⟩
theorem NlP.got {x : Ending} (h : NlP w m M U H a bb cc s t x w') (y : Int) (hm : H m) (hl : m < w.heap.size) : NlP w m M U H a bb cc s t x (w'.setCell ⟨m, 3, none⟩ (.int .i64 y)) := by
  obtain ⟨ra, rn, rc, z, row, hx, h1, h2, h3⟩ := h
  have hn := h3.nm hm hl
  exact ⟨ra, rn, rc, z, row, hx, h1.keep (only1 (p := m) _ _) (fun b hb e => hn b hb e), h2, h3.got y hm hn⟩
theorem NsP.got {x : Ending} (h : NsP kd w m M U H a bb cc s t x w') (y : Int) (hm : H m) (hl : m < w.heap.size) : NsP kd w m M U H a bb cc s t x (w'.setCell ⟨m, 3, none⟩ (.int .i64 y)) := by
  obtain ⟨ra, rn, rc, z, Z, hx, h1, h2, h3, h4, h5⟩ := h
  have hn := h5.nm hm hl
  exact ⟨ra, rn, rc, z, Z, hx, ownsRow_keep h1 (only1 (p := m) _ _) (fun b hb e => hn b (.inl hb) e), fun v hv => (h2 v hv).keep (only1 (p := m) _ _) (fun b hb e => hn b (.inr ⟨v, hv, hb⟩) e), h3, h4, h5.got y hm hn⟩
set_option maxRecDepth 100000 in
set_option maxHeartbeats 4000000 in
theorem n10_any (h : NX w m M U none H) (ok : MuOk M) (a bb cc : Int) (s t : ByteArray) : Calls Tryz.prog 104 #[.pointer (some ⟨m, 0, none⟩), .int .i64 a, .string s, vlA (fstP t)] w (NlP w m M U H a bb cc s t) := by
  obtain ⟨key, hkey⟩ : ∃ key, fstP t = key := ⟨_, rfl⟩
  have o1 : Only (fun _ => False) w (w.alloc (.cells #[.bool key.str, .int .i64 key.i, .string key.s] 106)) := (Only.refl _ _).alloc _
  have Bx : Has (w.alloc (.cells #[.bool key.str, .int .i64 key.i, .string key.s] 106)) w.heap.size #[.bool key.str, .int .i64 key.i, .string key.s] 106 := Has.new _ _ _
  have HH := hide (And.intro h (And.intro ok (And.intro o1 (And.intro Bx hkey))))
  rw [hkey]
  clear h ok o1 Bx hkey
  unfold vlA
  go_enter Tryz.func104, Tryz.ntmps104
  go_upto_region 1 with fail
  generalize w.alloc (.cells #[.bool key.str, .int .i64 key.i, .string key.s] 106) = w1 at *
  generalize hkb : w.heap.size = kb at *
  clear hkb
  have hd := (unhide HH).2.2.1.drew
  obtain ⟨k, P, X, c0', hPH, hh⟩ := ((unhide HH).1.quiet hd).turn
  have CC := (xmlookup_any X a s key (by rw [← (unhide HH).2.2.2.2]; exact fstP_wf t)).mono (fun e w' hp => show ∃ ra rn rc z, e = .returned (.tuple #[.slice ra rn rc, .int .i64 z]) ∧ NlP w m M U H a bb cc s t e w' from by
    rw [← (unhide HH).2.2.2.2] at hp
    have hq := (XlP.op (bb := bb) (cc := cc) (unhide HH).2.1 hh hp).low hd
    obtain ⟨ra, rn, rc, z, row, hx, _⟩ := id hq
    exact ⟨ra, rn, rc, z, hx, hq⟩)
  unfold vlA at CC
  have CC := hide CC
  have b0 := (unhide HH).2.2.2.1.cell 0
  have b1 := (unhide HH).2.2.2.1.cell 1
  have b2 := (unhide HH).2.2.2.1.cell 2
  have bl := (unhide HH).2.2.2.1.lt
  simp at b0 b1 b2
  have kl := X.kl
  have ml := ((unhide HH).1.quiet (unhide HH).2.2.1).ml
  have c0 : w1.cell? ⟨m, 0, none⟩ = some (.pointer (some ⟨k, 0, none⟩)) := c0'
  have kl1 : k < w1.heap.size := kl
  clear X hPH hh hd c0' kl
  go_region_with (go_at_call 192; refine (unhide CC).mono ?_; rintro x w3 ⟨ra, rn, rc, z, rfl, hp⟩; have HP := hide hp)
  all_goals
    clear hp
    by_cases z0 : z = 0
    · subst z0
      obtain ⟨y, g3, f3, ml3⟩ := (by obtain ⟨_, _, _, _, _, _, _, _, h⟩ := unhide HP; exact h.gotc : ∃ x : Int, w3.cell? ⟨m, 3, none⟩ = some (.int .i64 x) ∧ w3.frozen? ⟨m, 3, none⟩ = false ∧ m < w3.heap.size)
      have HG := hide (fun y => (unhide HP).got y (unhide HH).1.hm (unhide HH).1.ml)
      go_wp2_with fail
      go_ret2
      exact unhide HG _
    · have b0 : (z == 0) = false := ne_intO z0
      clear z0
      go_wp2_with fail
      go_ret2
      exact unhide HP
set_option maxRecDepth 100000 in
set_option maxHeartbeats 4000000 in
theorem n11_any (h : NX w m M U none H) (ok : MuOk M) (a bb cc : Int) (s t : ByteArray) : Calls Tryz.prog 105 #[.pointer (some ⟨m, 0, none⟩), .int .i64 a, .string s, .int .i64 bb, bdA (bits BinOp.and IntKind.i64 cc 1 != 0) (fstP t), bdA (bits BinOp.and IntKind.i64 cc 2 != 0) (sndP t)] w (NsP 11 w m M U H a bb cc s t) := by
  obtain ⟨lv, hlv⟩ : ∃ key, fstP t = key := ⟨_, rfl⟩
  obtain ⟨hv, hhv⟩ : ∃ key, sndP t = key := ⟨_, rfl⟩
  obtain ⟨lh, hlh⟩ : ∃ b : Bool, (bits BinOp.and IntKind.i64 cc 1 != 0) = b := ⟨_, rfl⟩
  obtain ⟨hh, hhh⟩ : ∃ b : Bool, (bits BinOp.and IntKind.i64 cc 2 != 0) = b := ⟨_, rfl⟩
  have o1 : Only (fun _ => False) w ((w.alloc (.cells #[.bool lh, .bool lv.str, .int .i64 lv.i, .string lv.s] 113)).alloc (.cells #[.bool hh, .bool hv.str, .int .i64 hv.i, .string hv.s] 113)) := ((Only.refl _ _).alloc _).alloc _
  have Bx : Has ((w.alloc (.cells #[.bool lh, .bool lv.str, .int .i64 lv.i, .string lv.s] 113)).alloc (.cells #[.bool hh, .bool hv.str, .int .i64 hv.i, .string hv.s] 113)) w.heap.size #[.bool lh, .bool lv.str, .int .i64 lv.i, .string lv.s] 113 := (Has.new _ _ _).alloc _
  have By : Has ((w.alloc (.cells #[.bool lh, .bool lv.str, .int .i64 lv.i, .string lv.s] 113)).alloc (.cells #[.bool hh, .bool hv.str, .int .i64 hv.i, .string hv.s] 113)) (w.heap.size + 1) #[.bool hh, .bool hv.str, .int .i64 hv.i, .string hv.s] 113 := Has.new' _ _ _ _ (by simp)
  have HH := hide (And.intro h (And.intro ok (And.intro o1 (And.intro Bx (And.intro By (And.intro (And.intro hlv hhv) (And.intro hlh hhh)))))))
  rw [hlv, hhv, hlh, hhh]
  clear h ok o1 Bx By hlv hhv hlh hhh
  unfold bdA
  go_enter Tryz.func105, Tryz.ntmps105
  go_upto_region 1 with fail
  generalize (w.alloc (.cells #[.bool lh, .bool lv.str, .int .i64 lv.i, .string lv.s] 113)).alloc (.cells #[.bool hh, .bool hv.str, .int .i64 hv.i, .string hv.s] 113) = w1 at *
  generalize hkb : w.heap.size = kb at *
  clear hkb
  have hd := (unhide HH).2.2.1.drew
  obtain ⟨k, P, X, c0', hPH, hk⟩ := ((unhide HH).1.quiet hd).turn
  have CC := (xmscan_any X a s bb lh hh lv hv (by rw [← (unhide HH).2.2.2.2.2.1.1]; exact fstP_wf t) (by rw [← (unhide HH).2.2.2.2.2.1.2]; exact sndP_wf t)).mono (fun e w' hp => show ∃ ra rn rc z, e = .returned (.tuple #[.slice ra rn rc, .int .i64 z]) ∧ NsP 11 w m M U H a bb cc s t e w' from by
    rw [← (unhide HH).2.2.2.2.2.1.1, ← (unhide HH).2.2.2.2.2.1.2, ← (unhide HH).2.2.2.2.2.2.1, ← (unhide HH).2.2.2.2.2.2.2] at hp
    have hq := (XsP.op (bb := bb) (cc := cc) (unhide HH).2.1 hk hp).low hd
    obtain ⟨ra, rn, rc, z, row, hx, _⟩ := id hq
    exact ⟨ra, rn, rc, z, hx, hq⟩)
  unfold bdA at CC
  have CC := hide CC
  have b0 := (unhide HH).2.2.2.1.cell 0
  have b1 := (unhide HH).2.2.2.1.cell 1
  have b2 := (unhide HH).2.2.2.1.cell 2
  have b3 := (unhide HH).2.2.2.1.cell 3
  have bl := (unhide HH).2.2.2.1.lt
  have e0 := (unhide HH).2.2.2.2.1.cell 0
  have e1 := (unhide HH).2.2.2.2.1.cell 1
  have e2 := (unhide HH).2.2.2.2.1.cell 2
  have e3 := (unhide HH).2.2.2.2.1.cell 3
  have el := (unhide HH).2.2.2.2.1.lt
  simp at b0 b1 b2 b3 e0 e1 e2 e3
  have kl := X.kl
  have ml := ((unhide HH).1.quiet (unhide HH).2.2.1).ml
  have c0 : w1.cell? ⟨m, 0, none⟩ = some (.pointer (some ⟨k, 0, none⟩)) := c0'
  have kl1 : k < w1.heap.size := kl
  clear X hPH hk hd c0' kl
  go_region_with (go_at_call 193; refine (unhide CC).mono ?_; rintro x w3 ⟨ra, rn, rc, z, rfl, hp⟩; have HP := hide hp)
  all_goals
    clear hp
    obtain ⟨y, g3, f3, ml3⟩ := (by obtain ⟨_, _, _, _, _, _, _, _, _, _, h⟩ := unhide HP; exact h.gotc : ∃ x : Int, w3.cell? ⟨m, 3, none⟩ = some (.int .i64 x) ∧ w3.frozen? ⟨m, 3, none⟩ = false ∧ m < w3.heap.size)
    have HG := hide (fun y => (unhide HP).got y (unhide HH).1.hm (unhide HH).1.ml)
    go_wp2_with fail
    go_ret2
    exact unhide HG _
theorem frr_view (h : NX w m M U none H) (ok : MuOk M) {x : Ending} (hp : FrR w (anV M a s).rows (anV M a s).e x w') : NsP 14 w m M U H a bb cc s t x w' := by
  obtain ⟨v, Z, rfl, hZ, own, hr, hN, o2⟩ := hp
  obtain ⟨ra, rc, rfl⟩ := ownsRow_shape own
  have bd : (anV M a s).rows.length ≤ 1000 ∧ (∀ r ∈ (anV M a s).rows, r.length ≤ 1000) ∧ anV M a s = { An.z with e := (anV M a s).e, rows := (anV M a s).rows } := by
    unfold anV
    by_cases g : gdS a
    · rw [if_pos g]
      cases hf : findD M.com s with
      | none => exact ⟨by simp [anE, An.z], fun r hr => (by simp [anE, An.z] at hr), rfl⟩
      | some t0 =>
        simp only
        refine ⟨?_, ?_, by first | trivial | rfl⟩
        · cases hg : findD (M.see a.toNat) s with
          | none => simp
          | some u =>
            have G := ok.gs a.toNat (by have := g.1; have := g.2; omega)
            have := (G.tb u (findD_mem hg).1).len
            simp
            omega
        · cases hg : findD (M.see a.toNat) s with
          | none => intro r hr; simp at hr
          | some u =>
            have G := ok.gs a.toNat (by have := g.1; have := g.2; omega)
            have hT := G.tb u (findD_mem hg).1
            intro r hr
            have hr : r ∈ u.rows := by simpa using hr
            have h1 := (hT.row r hr).len
            have h2 := hT.n3
            omega
    · rw [if_neg g]
      exact ⟨by simp [anE, An.z], fun r hr => (by simp [anE, An.z] at hr), rfl⟩
  rw [← hZ] at bd
  have hop : MuOp M a bb cc s t 14 M { An.z with e := (anV M a s).e, rows := Z.map (·.2) } := by
    have := MuOp.vie (M := M) (a := a) (bb := bb) (cc := cc) (s := s) (t := t)
    rw [bd.2.2] at this
    exact this
  refine ⟨ra, _, rc, _, Z, rfl, own, fun y hy => (hr y hy).1, by have := bd.1; rw [List.length_map] at this; exact this, fun y hy => bd.2.1 y.2 (List.mem_map.mpr ⟨y, hy, rfl⟩), M, none, H, hop, h.quiet o2, fun b hb => .inl hb, fun b hb => ?_, o2.mono (fun _ _ e => e.elim), .inl ⟨rfl, rfl⟩⟩
  have : w.heap.size ≤ b := hb.elim (hN b) (fun ⟨y, hy, h⟩ => (hr y hy).2 b h)
  exact ⟨this, fun c => (by have := h.lt b c; omega)⟩
set_option maxRecDepth 100000 in
set_option maxHeartbeats 4000000 in
theorem n14_any (h : NX w m M U none H) (ok : MuOk M) (a bb cc : Int) (s t : ByteArray) : Calls Tryz.prog 107 #[.pointer (some ⟨m, 0, none⟩), .int .i64 a, .string s] w (NsP 14 w m M U H a bb cc s t) := by
  obtain ⟨k, P, X, c0, hPH, hh⟩ := h.turn
  have CC := hide ((xmview_any X a s).mono (fun e w' hp => show ∃ ra rn rc z, e = .returned (.tuple #[.slice ra rn rc, .int .i64 z]) ∧ NsP 14 w m M U H a bb cc s t e w' from by
    have hq := frr_view (bb := bb) (cc := cc) (t := t) h ok hp
    obtain ⟨ra, rn, rc, z, row, hx, _⟩ := id hq
    exact ⟨ra, rn, rc, z, hx, hq⟩))
  have HH := hide h
  have kl := X.kl
  have ml := h.ml
  clear X hPH hh h ok
  go_enter Tryz.func107, Tryz.ntmps107
  go_wp2_with fail
  refine (unhide CC).mono ?_
  rintro x w3 ⟨ra, rn, rc, z, rfl, hp⟩
  have HP := hide hp
  obtain ⟨y, g3, f3, ml3⟩ := (by obtain ⟨_, _, _, _, _, _, _, _, _, _, h⟩ := hp; exact h.gotc : ∃ x : Int, w3.cell? ⟨m, 3, none⟩ = some (.int .i64 x) ∧ w3.frozen? ⟨m, 3, none⟩ = false ∧ m < w3.heap.size)
  have HG := hide (fun y => (unhide HP).got y (unhide HH).hm (unhide HH).ml)
  clear CC hp c0
  go_wp2_with fail
  go_ret2
  exact unhide HG _
set_option maxRecDepth 100000 in
theorem xnactive_any (h : NX w m M U hist H) (s : Int) : Calls Tryz.prog 94 #[.pointer (some ⟨m, 0, none⟩), .int .i64 s] w fun e w' => e = .returned (.bool (decide (gdS s) && M.act s.toNat)) ∧ w = w' := by
  obtain ⟨k, P, X, c0, hPH, hh⟩ := h.turn
  have CC := hide (xmactive_any X s)
  obtain ⟨R, hR⟩ : ∃ b : Bool, (decide (gdS s) && M.act s.toNat) = b := ⟨_, rfl⟩
  rw [hR] at CC ⊢
  have ml := h.ml
  have kl := X.kl
  clear X hPH hh h hR
  go_enter Tryz.func94, Tryz.ntmps94
  go_wp2_with fail
  refine (unhide CC).mono ?_
  rintro e w2 ⟨rfl, rfl⟩
  go_wp2_with fail
  go_ret
  exact ⟨rfl, rfl⟩
set_option maxRecDepth 100000 in
theorem xnlockOf_any (h : NX w m M U hist H) (s : Int) (nm : ByteArray) : Calls Tryz.prog 106 #[.pointer (some ⟨m, 0, none⟩), .int .i64 s, .string nm] w fun e w' => e = .returned (.int .i64 (if gdS s then M.lk s.toNat nm else 0)) ∧ w = w' := by
  obtain ⟨k, P, X, c0, hPH, hh⟩ := h.turn
  have CC := hide (xmlockOf_any X s nm)
  obtain ⟨R, hR⟩ : ∃ b : Int, (if gdS s then M.lk s.toNat nm else 0) = b := ⟨_, rfl⟩
  rw [hR] at CC ⊢
  have ml := h.ml
  have kl := X.kl
  clear X hPH hh h hR
  go_enter Tryz.func106, Tryz.ntmps106
  go_wp2_with fail
  refine (unhide CC).mono ?_
  rintro e w2 ⟨rfl, rfl⟩
  go_wp2_with fail
  go_ret
  exact ⟨rfl, rfl⟩
theorem NX.db (h : NX w m M U hist H) : ∃ k v l, w.cell? ⟨m, 0, none⟩ = some (.pointer (some ⟨k, 0, none⟩)) ∧ k < w.heap.size ∧ MDb w k 0 v l M.com := by
  obtain ⟨k, P, X, c0, hPH, hh⟩ := h.turn
  have kl := X.kl
  obtain ⟨Z, hZ, hS, hA⟩ := X.ex
  have hd := (hZ.mdc (j := 0) (o := 0) (by omega) rfl (hS.ok 0 (by omega))).db
  rw [hS.com] at hd
  exact ⟨k, _, _, c0, kl, hd⟩
set_option maxRecDepth 100000 in
theorem xntables_any (h : NX w m M U hist H) : Calls Tryz.prog 93 #[.pointer (some ⟨m, 0, none⟩)] w (NmP w (namesD M.com)) := by
  obtain ⟨k, v, l, c0, kl, hD⟩ := h.db
  have CC := hide (mdbNames_any hD)
  have ml := h.ml
  clear h hD
  go_enter Tryz.func93, Tryz.ntmps93
  go_wp2_with fail
  refine (unhide CC).mono ?_
  rintro x w2 hp
  have HP := hide hp
  obtain ⟨nv, rfl, _⟩ := hp
  clear CC
  go_wp2_with fail
  go_ret
  exact unhide HP
/-- A schema as shown. -/
structure Sch where
  nm : ByteArray
  cols : List Cl
  pk : Int
  ix : Int
  z : Int
def schD (D : Db) (nm : ByteArray) : Sch := match findD D nm with
  | none => ⟨⟨#[]⟩, [], 0, -1, 10⟩
  | some t => ⟨t.nm, t.cols, (t.pk : Int), ixI t.ix, 0⟩
def SgP (w : World) (s : Sch) (x : Ending) (w' : World) : Prop := ∃ cv, x = .returned (.tuple #[.agg #[.string s.nm, cv, .int .i64 s.pk, .int .i64 s.ix], .int .i64 s.z]) ∧ OwnC w' cv s.cols ∧ Newer w cv ∧ Only (fun _ => False) w w'
theorem mdbSchema_any {w : World} {dk o : Nat} {v : Value} {l : List GE} {D : Db} (M : MDb w dk o v l D) (nm : ByteArray) : Calls Tryz.prog 196 #[.pointer (some ⟨dk, o, none⟩), .string nm] w (SgP w (schD D nm)) := by
  unfold schD
  cases hf : findD D nm with
  | none =>
    refine (mdbSchema_no M hf).mono ?_
    rintro x w' ⟨rfl, o1⟩
    exact ⟨.slice none 0 0, rfl, World.ownsRow_nil _ _ _ _, fun k hk => by simp [Value.ownBlock] at hk, o1⟩
  | some t =>
    refine (mdbSchema_yes M hf).mono ?_
    rintro x w' ⟨z, rfl, C, hz, o1⟩
    exact ⟨_, rfl, C, fun k hk => by simp [Value.ownBlock] at hk; omega, o1⟩
set_option maxRecDepth 100000 in
theorem xnschema_any (h : NX w m M U hist H) (nm : ByteArray) : Calls Tryz.prog 108 #[.pointer (some ⟨m, 0, none⟩), .string nm] w (SgP w (schD M.com nm)) := by
  have o1 : Only (fun _ => False) w (w.alloc (.cells #[.string ⟨#[]⟩, .slice none 0 0, .int .i64 0, .int .i64 0] 51)) := (Only.refl _ w).alloc _
  have B1 : Has (w.alloc (.cells #[.string ⟨#[]⟩, .slice none 0 0, .int .i64 0, .int .i64 0] 51)) w.heap.size #[.string ⟨#[]⟩, .slice none 0 0, .int .i64 0, .int .i64 0] 51 := Has.new w _ _
  obtain ⟨k, v, l, c0, kl, hD⟩ := (h.quiet o1).db
  have ml := (h.quiet o1).ml
  have CC := hide (mdbSchema_any hD nm)
  have HX := hide (And.intro o1 B1)
  clear h o1 B1 hD
  generalize schD M.com nm = s at *
  go_enter Tryz.func108, Tryz.ntmps108
  go_wp2_with fail
  refine (unhide CC).mono ?_
  rintro x w2 ⟨cv, rfl, hO, hN, o2⟩
  generalize w.alloc (.cells #[.string ⟨#[]⟩, .slice none 0 0, .int .i64 0, .int .i64 0] 51) = w1 at *
  have hsz := (unhide HX).2.lt
  have B := (unhide HX).2.keep o2 (fun e => e)
  have hb := (unhide HX).1.size
  generalize hkb : w.heap.size = kb at *
  have e0 := B.cell 0
  have e1 := B.cell 1
  have e2 := B.cell 2
  have e3 := B.cell 3
  have f0 := B.free 0
  have f1 := B.free 1
  have f2 := B.free 2
  have f3 := B.free 3
  simp at e0 e1 e2 e3
  obtain ⟨ca, cc, hcv⟩ := hO.shape
  have Bf : Has ((((w2.setCell ⟨kb, 0, none⟩ (.string s.nm)).setCell ⟨kb, 1, none⟩ cv).setCell ⟨kb, 2, none⟩ (.int .i64 s.pk)).setCell ⟨kb, 3, none⟩ (.int .i64 s.ix)) kb #[.string s.nm, cv, .int .i64 s.pk, .int .i64 s.ix] 51 := (((B.setCell 0 (.string s.nm)).setCell 1 cv).setCell 2 (.int .i64 s.pk)).setCell 3 (.int .i64 s.ix)
  have og : Only (fun k => k = kb) w2 ((((w2.setCell ⟨kb, 0, none⟩ (.string s.nm)).setCell ⟨kb, 1, none⟩ cv).setCell ⟨kb, 2, none⟩ (.int .i64 s.pk)).setCell ⟨kb, 3, none⟩ (.int .i64 s.ix)) := (((only1 (p := kb) _ _).trans (only1 (p := kb) _ _) (fun _ _ h => h)).trans (only1 (p := kb) _ _) (fun _ _ h => h)).trans (only1 (p := kb) _ _) (fun _ _ h => h)
  have hne : ∀ k, cv.ownBlock = some k → k ≠ kb := fun k hk e => by have := hN k hk; omega
  have HP := hide (And.intro Bf (And.intro (hO.keep og hne) (And.intro (show Newer w cv from fun k hk => by have := hN k hk; omega) (((unhide HX).1.trans o2 (fun _ _ e => e)).fresh og (by omega)))))
  clear B Bf og hO hne hN o2 CC HX
  obtain ⟨cn, hcn⟩ : ∃ cn, s.cols.length = cn := ⟨_, rfl⟩
  rw [hcn] at hcv
  subst hcv
  clear hcn
  go_wp2_with fail
  refine bodyPost_ret (res2_sch Tryz.results108 _ rfl (unhide HP).1 rfl) rfl ⟨_, rfl, (unhide HP).2⟩
end
end Go.Proofs.Qxb6500414aGreat
