/-
  OWN WORK. TXN's MODEL: txnm.Mgr: the calls that answer an Errno alone (written by tools/gen_xn1.py).
-/
import Derived.Test.Qxb6500414aGreatXN0
namespace Go.Proofs.Qxb6500414aGreat
open Go.RowKit Go.PlainAid
set_option linter.unusedSimpArgs false
set_option linter.unusedVariables false

/-- What an op of the model leaves behind a mark. -/
def PmQ (w : World) (m : Nat) (M : Mu) (U : Db) (H : Nat → Prop) (kd a bb cc : Int) (s t : ByteArray) (an : An) (w' : World) : Prop :=
  ∃ M' hist' H', MuOp M a bb cc s t kd M' an ∧ NX w' m M' U hist' H' ∧ (∀ b, H' b → H b ∨ w.heap.size ≤ b) ∧ Only H w w' ∧ ((hist' = none ∧ M'.com = M.com) ∨ hist' = some M'.com)
section
variable {w w1 w' : World} {m : Nat} {M M' : Mu} {U : Db} {hist : Option Db} {H : Nat → Prop} {kd a bb cc : Int} {s t : ByteArray} {an : An}
theorem PmQ.mk (hop : MuOp M a bb cc s t kd M' an) (h : NX w' m M' U none (Ext H w w') ∧ Only H w w') (hc : M'.com = M.com) : PmQ w m M U H kd a bb cc s t an w' := ⟨M', none, _, hop, h.1, fun b hb => Ext.old hb, h.2, .inl ⟨rfl, hc⟩⟩
theorem PmQ.self (h : NX w m M U none H) (hop : MuOp M a bb cc s t kd M an) : PmQ w m M U H kd a bb cc s t an w := PmQ.mk hop h.self rfl
theorem PmQ.low (o : Only (fun _ => False) w w1) (h : PmQ w1 m M U H kd a bb cc s t an w') : PmQ w m M U H kd a bb cc s t an w' := by
  obtain ⟨M', hist', H', h1, h2, h3, h4, h5⟩ := h
  have := o.size
  exact ⟨M', hist', H', h1, h2, fun b hb => (h3 b hb).imp id (fun c => by omega), (o.mono (fun _ _ e => e.elim)).trans h4 (fun _ _ e => e), h5⟩
theorem PmQ.quiet (o : Only (fun _ => False) w1 w') (h : PmQ w m M U H kd a bb cc s t an w1) : PmQ w m M U H kd a bb cc s t an w' := by
  obtain ⟨M', hist', H', h1, h2, h3, h4, h5⟩ := h
  exact ⟨M', hist', H', h1, h2.quiet o, h3, h4.trans (o.mono (T := H) (fun _ _ e => e.elim)) (fun _ _ e => e), h5⟩
theorem yhist_own {w5 : World} {g cap : Nat} {v : Value} (h1 : 1 ≤ cap) (h2 : cap ≤ maxLen) (h : Has w5 g (#[v] ++ Builtin.zeroCells #[.slice none 0 0] (cap - 1)) 37) : w5.ownsRow 0 37 1 (.slice (some ⟨g, 0, none⟩) 1 cap) 1 [v] := by
  refine ⟨rfl, .inr ⟨g, cap, _, rfl, Nat.zero_le _, h, h1, h2, ?_, ?_⟩⟩
  · rw [Array.size_append, size_zeroCells]
    show 1 + (cap - 1) * 1 = cap * 1
    omega
  · rw [Array.toList_append, List.take_append_of_le_length (by show 1 ≤ 1; omega)]
    rfl
set_option maxRecDepth 100000 in
theorem xnstep_no (w : World) (m : Nat) {z : Int} (z0 : z ≠ 0) : Calls Tryz.prog 184 #[.pointer (some ⟨m, 0, none⟩), .int .i64 z] w fun e w' => e = .returned (.int .i64 z) ∧ w = w' := by
  have b0 : (z == 0) = false := ne_intO z0
  clear z0
  go_enter Tryz.func184, Tryz.ntmps184
  go_wp2_with fail
  go_ret
  exact ⟨rfl, rfl⟩
set_option maxRecDepth 100000 in
set_option maxHeartbeats 4000000 in
theorem xnstep_ok (h : NX w m M U none H) : Calls Tryz.prog 184 #[.pointer (some ⟨m, 0, none⟩), .int .i64 0] w fun e w' => e = .returned (.int .i64 0) ∧ NX w' m M U (some M.com) (Ext H w w') ∧ Only (fun b => b = m) w w' := by
  obtain ⟨k, bv, hv, got, P, O, h1, h2, h3, h4, h5, h6⟩ := h.ex
  have ehv : hv = .slice none 0 0 := h4
  subst ehv
  have c0 : w.cell? ⟨m, 0, none⟩ = some (.pointer (some ⟨k, 0, none⟩)) := by rw [h1.cell]; rfl
  have c2 : w.cell? ⟨m, 2, none⟩ = some (.slice none 0 0) := by rw [h1.cell]; rfl
  have f2 := h1.free 2
  have kl := h2.kl
  have ml := h.ml
  have d1 : Only (fun _ => False) w w.drew := (Only.refl _ w).drew
  have C2 : Calls Tryz.prog 88 #[.pointer (some ⟨k, 0, none⟩)] w.drew fun e w3 => ∃ (g2 n2 : Nat), e = .returned (.agg #[.slice (some ⟨g2, 0, none⟩) n2 n2]) ∧ w3.cell? ⟨m, 2, none⟩ = some (.slice none 0 0) ∧ w3.frozen? ⟨m, 2, none⟩ = false ∧ m < w3.heap.size ∧
      Hid (∃ P2, MV w3 (.slice (some ⟨g2, 0, none⟩) n2 n2) M.com P2 ∧ (∀ b, P2 b → w.heap.size ≤ b ∧ b < w3.heap.size) ∧ Only (fun _ => False) w w3) := by
    obtain ⟨Z, hZ, hS, hA⟩ := h2.ex
    have hZ2 := hZ.quiet d1
    have V : MV w.drew (Z.v 0) M.com (fun b => MLm (Z.v 0) (Z.l 0) b ∨ MLi (Z.l 0) b) := ⟨Z.l 0, hZ2.ml 0 (by omega), hS.com, hS.cok, fun b hb => hb⟩
    refine (vclone_any (dk := k) (o := 0) hZ2.c0 V).mono ?_
    rintro e w3 ⟨g2, n2, P2, rfl, V2, hP2, o3⟩
    have o13 := d1.trans o3 (fun _ _ e => e)
    have k3 := h1.keep o13 (fun h => h)
    exact ⟨g2, n2, rfl, by rw [k3.cell]; rfl, k3.free 2, k3.lt, hide ⟨P2, V2, fun b hb => ⟨Nat.le_trans d1.size (hP2 b hb).1, (hP2 b hb).2⟩, o13⟩⟩
  have C2 := hide C2
  have HH := hide (And.intro h (And.intro h1 (And.intro h2 (And.intro h3 (And.intro h5 h6)))))
  clear h h1 h2 h3 h4 h5 h6 d1
  go_enter Tryz.func184, Tryz.ntmps184
  go_upto_region 2 with fail
  go_region_with (first | (go_at_call 88; refine (unhide C2).mono ?_; rintro e w3 ⟨g2, n2, rfl, z3, f4, ml3, HF⟩))
  all_goals
    have hc1 : 1 ≤ (Question.appendCap 1 0 37).cut (w3.tape w3.drawn (Question.appendCap 1 0 37)) := grownCap_ge w3 1 0 37
    have hc2 : (Question.appendCap 1 0 37).cut (w3.tape w3.drawn (Question.appendCap 1 0 37)) ≤ maxLen := grownCap_le_maxLen w3 1 0 37 (by unfold maxLen; omega)
    generalize (Question.appendCap 1 0 37).cut (w3.tape w3.drawn (Question.appendCap 1 0 37)) = cap at *
    obtain ⟨P2, V2, hP2, o3⟩ := unhide HF
    obtain ⟨h, h1, h2, h3, h5, h6⟩ := unhide HH
    have k3 := h1.keep o3 (fun h => h)
    have k4 := k3.setCell 2 (.slice (some ⟨w3.heap.size + 1, 0, none⟩) 1 cap)
    have k5 := ((k4.alloc (.cells #[.slice (some ⟨g2, 0, none⟩) n2 n2] 37)).alloc (.cells (#[.slice (some ⟨g2, 0, none⟩) n2 n2] ++ Builtin.zeroCells #[.slice none 0 0] (cap - 1)) 37)).drew
    have hZ : Has (((w3.setCell ⟨m, 2, none⟩ (.slice (some ⟨w3.heap.size + 1, 0, none⟩) 1 cap)).alloc (.cells #[.slice (some ⟨g2, 0, none⟩) n2 n2] 37)).alloc (.cells (#[.slice (some ⟨g2, 0, none⟩) n2 n2] ++ Builtin.zeroCells #[.slice none 0 0] (cap - 1)) 37)).drew (w3.heap.size + 1) (#[.slice (some ⟨g2, 0, none⟩) n2 n2] ++ Builtin.zeroCells #[.slice none 0 0] (cap - 1)) 37 := (Has.new' _ _ _ _ (by simp)).drew
    have o4 : Only (fun k => k = m) w3 (((w3.setCell ⟨m, 2, none⟩ (.slice (some ⟨w3.heap.size + 1, 0, none⟩) 1 cap)).alloc (.cells #[.slice (some ⟨g2, 0, none⟩) n2 n2] 37)).alloc (.cells (#[.slice (some ⟨g2, 0, none⟩) n2 n2] ++ Builtin.zeroCells #[.slice none 0 0] (cap - 1)) 37)).drew := ((((only1 _ _).alloc _).alloc _).drew)
    have hown := yhist_own hc1 hc2 hZ
    generalize (((w3.setCell ⟨m, 2, none⟩ (.slice (some ⟨w3.heap.size + 1, 0, none⟩) 1 cap)).alloc (.cells #[.slice (some ⟨g2, 0, none⟩) n2 n2] 37)).alloc (.cells (#[.slice (some ⟨g2, 0, none⟩) n2 n2] ++ Builtin.zeroCells #[.slice none 0 0] (cap - 1)) 37)).drew = w4 at *
    have HP := hide (show NX w4 m M U (some M.com) (Ext H w w4) ∧ Only (fun k => k = m) w w4 by
      have s3 := o3.size
      have s4 := o4.size
      have mlw := h.ml
      have oA : Only (fun k => k = m) w w4 := (o3.mono (T := fun k => k = m) (fun _ _ h => h.elim)).trans o4 (fun _ _ h => h)
      have X2 := V2.keep o4 (fun k hk e => by have := hP2 k hk; omega)
      have hl := ownsRow_lt hown (w3.heap.size + 1) rfl
      refine ⟨⟨⟨k, bv, .slice (some ⟨w3.heap.size + 1, 0, none⟩) 1 cap, got, P, fun b => O b ∨ P2 b ∨ b = w3.heap.size + 1, k5, h2.keep oA (fun b hb e => (h5 b hb).2.2 e), (h3.keep oA (fun b hb e => (h6 b hb).2 e)).mono (fun b hb => .inl hb), ⟨_, hown, X2.mono (fun b hb => .inr (.inl hb)), fun b hb => ?_⟩, fun b hb => ⟨fun e => ?_, .inl (h5 b hb).2.1, (h5 b hb).2.2⟩, fun b hb => ?_⟩, .inl h.hm, Ext.in h.lt oA.size⟩, oA⟩
      · simp [Value.ownBlock] at hb
        exact .inr (.inr hb.symm)
      · have hkw := h2.lt b hb
        rcases e with e | e | e
        · exact (h5 b hb).1 e
        · have := hP2 b e; omega
        · omega
      · rcases hb with e | e | e
        · exact ⟨.inl (h6 b e).1, (h6 b e).2⟩
        · have := hP2 b e
          exact ⟨.inr ⟨by omega, by omega⟩, by omega⟩
        · subst e
          exact ⟨.inr ⟨by omega, hl⟩, by omega⟩)
    clear k3 k4 k5 hZ o4 V2 o3 hown h h1 h2 h3 h5 h6 HF HH C2 c0 c2 f2 z3 f4 hP2 hc1 hc2
    go_wp2_with fail
    go_ret
    exact ⟨rfl, unhide HP⟩
theorem MwP.op {k : Nat} {P : Nat → Prop} {f : Db → Db × Int} {e : Ending} (hop : ∀ M' an, MuWr M a s f M' an → MuOp M a bb cc s t kd M' an) (hh : ∀ {M' : Mu} {P' B : Nat → Prop} {w' : World}, MX w' k M' P' → (∀ b, P' b → P b ∨ w.heap.size ≤ b) → Only B w w' → (∀ b, B b → P b) → NX w' m M' U none (Ext H w w') ∧ Only H w w') (hp : MwP w k M P a s f e w') : ∃ z, e = .returned (.int .i64 z) ∧ PmQ w m M U H kd a bb cc s t (anE z) w' := by
  rcases hp with ⟨z, rfl, z0, hz, X, o⟩ | ⟨z, rfl, hz, rfl, X, o⟩
  · exact ⟨z, rfl, PmQ.mk (hop _ _ (.inl ⟨z, z0, hz, rfl, rfl⟩)) (hh X (fun b hb => Ext.old hb) o (fun _ h => h)) rfl⟩
  · exact ⟨_, rfl, PmQ.mk (hop _ _ (.inr ⟨hz, rfl, rfl⟩)) (hh X (fun b hb => Ext.old hb) o (fun _ h => h)) rfl⟩
set_option maxRecDepth 100000 in
set_option maxHeartbeats 4000000 in
theorem n1_any (h : NX w m M U none H) (a bb cc : Int) (s t : ByteArray) : Calls Tryz.prog 95 #[.pointer (some ⟨m, 0, none⟩), .int .i64 a] w fun e w' => ∃ z, e = .returned (.int .i64 z) ∧ PmQ w m M U H 1 a bb cc s t (anE z) w' := by
  obtain ⟨k, P, X, c0, hPH, hh⟩ := h.turn
  have CC := hide ((xmbegin_any X a).mono (fun e w' hp => show ∃ z, e = .returned (.int .i64 z) ∧ PmQ w m M U H 1 a bb cc s t (anE z) w' from by
    rcases hp with ⟨z, rfl, z0, hz, rfl⟩ | ⟨rfl, hz, ha, X2, o⟩
    · exact ⟨z, rfl, PmQ.self h (.bgN z hz)⟩
    · exact ⟨0, rfl, PmQ.mk (.bgY hz ha) (hh X2 (fun b hb => Ext.old hb) o (fun _ h => h)) rfl⟩))
  have kl := X.kl
  have ml := h.ml
  clear h X hPH hh
  go_enter Tryz.func95, Tryz.ntmps95
  go_wp2_with fail
  refine (unhide CC).mono ?_
  rintro e w2 ⟨z, rfl, hp⟩
  have HP := hide hp
  clear CC hp c0
  go_wp2_with fail
  go_ret
  exact ⟨z, rfl, unhide HP⟩
set_option maxRecDepth 100000 in
set_option maxHeartbeats 4000000 in
theorem n3_any (h : NX w m M U none H) (a bb cc : Int) (s t : ByteArray) : Calls Tryz.prog 97 #[.pointer (some ⟨m, 0, none⟩), .int .i64 a] w fun e w' => ∃ z, e = .returned (.int .i64 z) ∧ PmQ w m M U H 3 a bb cc s t (anE z) w' := by
  obtain ⟨k, P, X, c0, hPH, hh⟩ := h.turn
  have CC := hide ((xmroll_any X a).mono (fun e w' hp => show ∃ z, e = .returned (.int .i64 z) ∧ PmQ w m M U H 3 a bb cc s t (anE z) w' from by
    rcases hp with ⟨rfl, z0, rfl⟩ | ⟨rfl, hz, X2, o⟩
    · exact ⟨_, rfl, PmQ.self h (.roN z0)⟩
    · exact ⟨0, rfl, PmQ.mk (.roY hz) (hh X2 (fun b hb => Ext.old hb) o (fun _ h => h)) rfl⟩))
  have kl := X.kl
  have ml := h.ml
  clear h X hPH hh
  go_enter Tryz.func97, Tryz.ntmps97
  go_wp2_with fail
  refine (unhide CC).mono ?_
  rintro e w2 ⟨z, rfl, hp⟩
  have HP := hide hp
  clear CC hp c0
  go_wp2_with fail
  go_ret
  exact ⟨z, rfl, unhide HP⟩
set_option maxRecDepth 100000 in
set_option maxHeartbeats 4000000 in
theorem n7_any (h : NX w m M U none H) (ok : MuOk M) (a bb cc : Int) (s t : ByteArray) {ra : Option Addr} {rn rc : Nat} (hr : OwnV w (.slice ra rn rc) (rowP t)) (hrq : ∀ b, (Value.slice ra rn rc).ownBlock = some b → ¬ H b) : Calls Tryz.prog 101 #[.pointer (some ⟨m, 0, none⟩), .int .i64 a, .string s, .slice ra rn rc] w fun e w' => ∃ z, e = .returned (.int .i64 z) ∧ PmQ w m M U H 7 a bb cc s t (anE z) w' := by
  obtain ⟨k, P, X, c0, hPH, hh⟩ := h.turn
  have CC := hide ((xminsert_any X ok a s hr (fun b hb c => hrq b hb (hPH b c)) (rowP_wf t) (by have := rowP_len t; omega)).mono (fun e w' hp => show ∃ z, e = .returned (.int .i64 z) ∧ PmQ w m M U H 7 a bb cc s t (anE z) w' from MwP.op (fun M' an h => .ins M' an h) hh hp))
  have kl := X.kl
  have ml := h.ml
  clear h X hPH hh hr hrq ok
  go_enter Tryz.func101, Tryz.ntmps101
  go_wp2_with fail
  refine (unhide CC).mono ?_
  rintro e w2 ⟨z, rfl, hp⟩
  have HP := hide hp
  clear CC hp c0
  go_wp2_with fail
  go_ret
  exact ⟨z, rfl, unhide HP⟩
set_option maxRecDepth 100000 in
set_option maxHeartbeats 4000000 in
theorem n8_any (h : NX w m M U none H) (ok : MuOk M) (a bb cc : Int) (s t : ByteArray) {ra : Option Addr} {rn rc : Nat} (hr : OwnV w (.slice ra rn rc) (rowP t)) (hrq : ∀ b, (Value.slice ra rn rc).ownBlock = some b → ¬ H b) : Calls Tryz.prog 102 #[.pointer (some ⟨m, 0, none⟩), .int .i64 a, .string s, .slice ra rn rc] w fun e w' => ∃ z, e = .returned (.int .i64 z) ∧ PmQ w m M U H 8 a bb cc s t (anE z) w' := by
  obtain ⟨k, P, X, c0, hPH, hh⟩ := h.turn
  have CC := hide ((xmupdate_any X ok a s hr (fun b hb c => hrq b hb (hPH b c)) (rowP_wf t) (by have := rowP_len t; omega)).mono (fun e w' hp => show ∃ z, e = .returned (.int .i64 z) ∧ PmQ w m M U H 8 a bb cc s t (anE z) w' from MwP.op (fun M' an h => .upd M' an h) hh hp))
  have kl := X.kl
  have ml := h.ml
  clear h X hPH hh hr hrq ok
  go_enter Tryz.func102, Tryz.ntmps102
  go_wp2_with fail
  refine (unhide CC).mono ?_
  rintro e w2 ⟨z, rfl, hp⟩
  have HP := hide hp
  clear CC hp c0
  go_wp2_with fail
  go_ret
  exact ⟨z, rfl, unhide HP⟩
set_option maxRecDepth 100000 in
set_option maxHeartbeats 4000000 in
theorem n9_any (h : NX w m M U none H) (ok : MuOk M) (a bb cc : Int) (s t : ByteArray) : Calls Tryz.prog 103 #[.pointer (some ⟨m, 0, none⟩), .int .i64 a, .string s, vlA (fstP t)] w fun e w' => ∃ z, e = .returned (.int .i64 z) ∧ PmQ w m M U H 9 a bb cc s t (anE z) w' := by
  obtain ⟨key, hkey⟩ : ∃ key, fstP t = key := ⟨_, rfl⟩
  have o1 : Only (fun _ => False) w (w.alloc (.cells #[.bool key.str, .int .i64 key.i, .string key.s] 106)) := (Only.refl _ _).alloc _
  have Bx : Has (w.alloc (.cells #[.bool key.str, .int .i64 key.i, .string key.s] 106)) w.heap.size #[.bool key.str, .int .i64 key.i, .string key.s] 106 := Has.new _ _ _
  have HH := hide (And.intro h (And.intro ok (And.intro o1 (And.intro Bx hkey))))
  rw [hkey]
  clear h ok o1 Bx hkey
  unfold vlA
  go_enter Tryz.func103, Tryz.ntmps103
  go_upto_region 1 with fail
  generalize w.alloc (.cells #[.bool key.str, .int .i64 key.i, .string key.s] 106) = w1 at *
  generalize hkb : w.heap.size = kb at *
  clear hkb
  have hd := (unhide HH).2.2.1.drew
  obtain ⟨k, P, X, c0', hPH, hh⟩ := ((unhide HH).1.quiet hd).turn
  have hop : ∀ M' an, MuWr M a s (fun D => delD D s key) M' an → MuOp M a bb cc s t 9 M' an := fun M' an hx => .del M' an (by rw [(unhide HH).2.2.2.2]; exact hx)
  have CC := (xmdelete_any X (unhide HH).2.1 a s key (by rw [← (unhide HH).2.2.2.2]; exact fstP_wf t)).mono (fun e w' hp => show ∃ z, e = .returned (.int .i64 z) ∧ PmQ w m M U H 9 a bb cc s t (anE z) w' from by
    obtain ⟨z, hz, hq⟩ := MwP.op hop hh hp
    exact ⟨z, hz, hq.low hd⟩)
  unfold vlA at CC
  have CC := hide CC
  have b0 := (unhide HH).2.2.2.1.cell 0
  have b1 := (unhide HH).2.2.2.1.cell 1
  have b2 := (unhide HH).2.2.2.1.cell 2
  have bl := (unhide HH).2.2.2.1.lt
  simp at b0 b1 b2
  have kl := X.kl
  have ml := ((unhide HH).1.quiet (unhide HH).2.2.1).ml
  have c0 : w1.cell? ⟨m, 0, none⟩ = some (.pointer (some ⟨k, 0, none⟩)) := c0'
  have kl1 : k < w1.heap.size := kl
  clear X hPH hh hd hop c0' kl
  go_region_with (go_at_call 191; refine (unhide CC).mono ?_; rintro x w3 ⟨z, rfl, hp⟩; have HP := hide hp)
  all_goals
    go_wp2_with fail
    go_ret
    exact ⟨z, rfl, unhide HP⟩
set_option maxRecDepth 100000 in
set_option maxHeartbeats 4000000 in
theorem n2_any (h : NX w m M U none H) (ok : MuOk M) (a bb cc : Int) (s t : ByteArray) : Calls Tryz.prog 96 #[.pointer (some ⟨m, 0, none⟩), .int .i64 a] w fun e w' => ∃ z, e = .returned (.int .i64 z) ∧ PmQ w m M U H 2 a bb cc s t (anE z) w' := by
  obtain ⟨k, P, X, c0, hPH, hh⟩ := h.turn
  have CC := hide ((xmcommit_any X ok a).mono (fun e w' hp => show ∃ z, e = .returned (.int .i64 z) ∧ ∃ M', MuOp M a bb cc s t 2 M' (anE z) ∧ (NX w' m M' U none (Ext H w w') ∧ Only H w w') ∧ (z ≠ 0 → M'.com = M.com) from by
    rcases hp with ⟨rfl, z0, rfl⟩ | ⟨rfl, hz, X2, o⟩
    · exact ⟨_, rfl, M, .coN z0, h.self, fun _ => rfl⟩
    · exact ⟨0, rfl, _, .coY hz, hh X2 (fun b hb => Ext.old hb) o (fun _ h => h), fun c => absurd rfl c⟩))
  have kl := X.kl
  have ml := h.ml
  have HL := hide h.lt
  have HM := hide h.hm
  clear h X hPH hh ok
  go_enter Tryz.func96, Tryz.ntmps96
  go_wp2_with fail
  refine (unhide CC).mono ?_
  rintro e w2 ⟨z, rfl, M', hop, ⟨hN, ho⟩, hz⟩
  clear CC c0
  by_cases z0 : z = 0
  · subst z0
    have C2 := hide (xnstep_ok hN)
    have HH := hide (And.intro hop (And.intro hN ho))
    clear hop hN ho hz
    go_wp2_with fail
    refine (unhide C2).mono ?_
    rintro e w3 ⟨rfl, hN3, o3⟩
    have HP := hide (show PmQ w m M U H 2 a bb cc s t (anE 0) w3 from ⟨M', _, _, (unhide HH).1, hN3, fun b hb => by
      have z2 := (unhide HH).2.2.size
      rcases hb with (c | c) | c
      · exact .inl c
      · exact .inr c.1
      · exact .inr (by omega), (unhide HH).2.2.trans o3 (fun b hb e => by have e' : b = m := e; rw [e']; exact unhide HM), .inr rfl⟩)
    clear C2 hN3 o3 HH
    go_wp2_with fail
    go_ret
    exact ⟨0, rfl, unhide HP⟩
  · have C2 := hide (xnstep_no w2 m z0)
    have HP := hide (show PmQ w m M U H 2 a bb cc s t (anE z) w2 from PmQ.mk hop ⟨hN, ho⟩ (hz z0))
    clear hop hN ho hz z0
    go_wp2_with fail
    refine (unhide C2).mono ?_
    rintro e w3 ⟨rfl, rfl⟩
    clear C2
    go_wp2_with fail
    go_ret
    exact ⟨z, rfl, unhide HP⟩
set_option maxRecDepth 100000 in
set_option maxHeartbeats 4000000 in
theorem n4_any (h : NX w m M U none H) (a bb cc : Int) (s t : ByteArray) {cv : Value} (hc : OwnC w cv (colsP t)) : Calls Tryz.prog 98 #[.pointer (some ⟨m, 0, none⟩), .int .i64 a, .string s, cv, .int .i64 bb] w fun e w' => ∃ z, e = .returned (.int .i64 z) ∧ PmQ w m M U H 4 a bb cc s t (anE z) w' := by
  obtain ⟨k, P, X, c0, hPH, hh⟩ := h.turn
  have CC := hide ((xmcreate_any X a s hc bb).mono (fun e w' hp => show ∃ z, e = .returned (.int .i64 z) ∧ ∃ M', MuOp M a bb cc s t 4 M' (anE z) ∧ (NX w' m M' U none (Ext H w w') ∧ Only H w w') ∧ (z ≠ 0 → M'.com = M.com) from by
    rcases hp with ⟨z, rfl, z0, hz, X2, o⟩ | ⟨rfl, hz, hR, X2, o⟩
    · exact ⟨z, rfl, M, .crt _ _ (.inl ⟨z, z0, hz, rfl, rfl⟩), hh X2 (fun b hb => Ext.old hb) o (fun _ h => h), fun _ => rfl⟩
    · exact ⟨0, rfl, _, .crt _ _ (.inr ⟨hz, hR, rfl, rfl⟩), hh X2 (fun b hb => Ext.old hb) o (fun _ h => h), fun c => absurd rfl c⟩))
  have kl := X.kl
  have ml := h.ml
  have HL := hide h.lt
  have HM := hide h.hm
  clear h X hPH hh hc
  go_enter Tryz.func98, Tryz.ntmps98
  go_wp2_with fail
  refine (unhide CC).mono ?_
  rintro e w2 ⟨z, rfl, M', hop, ⟨hN, ho⟩, hz⟩
  clear CC c0
  by_cases z0 : z = 0
  · subst z0
    have C2 := hide (xnstep_ok hN)
    have HH := hide (And.intro hop (And.intro hN ho))
    clear hop hN ho hz
    go_wp2_with fail
    refine (unhide C2).mono ?_
    rintro e w3 ⟨rfl, hN3, o3⟩
    have HP := hide (show PmQ w m M U H 4 a bb cc s t (anE 0) w3 from ⟨M', _, _, (unhide HH).1, hN3, fun b hb => by
      have z2 := (unhide HH).2.2.size
      rcases hb with (c | c) | c
      · exact .inl c
      · exact .inr c.1
      · exact .inr (by omega), (unhide HH).2.2.trans o3 (fun b hb e => by have e' : b = m := e; rw [e']; exact unhide HM), .inr rfl⟩)
    clear C2 hN3 o3 HH
    go_wp2_with fail
    go_ret
    exact ⟨0, rfl, unhide HP⟩
  · have C2 := hide (xnstep_no w2 m z0)
    have HP := hide (show PmQ w m M U H 4 a bb cc s t (anE z) w2 from PmQ.mk hop ⟨hN, ho⟩ (hz z0))
    clear hop hN ho hz z0
    go_wp2_with fail
    refine (unhide C2).mono ?_
    rintro e w3 ⟨rfl, rfl⟩
    clear C2
    go_wp2_with fail
    go_ret
    exact ⟨z, rfl, unhide HP⟩
set_option maxRecDepth 100000 in
set_option maxHeartbeats 4000000 in
theorem n5_any (h : NX w m M U none H) (a bb cc : Int) (s t : ByteArray) : Calls Tryz.prog 99 #[.pointer (some ⟨m, 0, none⟩), .int .i64 a, .string s] w fun e w' => ∃ z, e = .returned (.int .i64 z) ∧ PmQ w m M U H 5 a bb cc s t (anE z) w' := by
  obtain ⟨k, P, X, c0, hPH, hh⟩ := h.turn
  have CC := hide ((xmdrop_any X a s).mono (fun e w' hp => show ∃ z, e = .returned (.int .i64 z) ∧ ∃ M', MuOp M a bb cc s t 5 M' (anE z) ∧ (NX w' m M' U none (Ext H w w') ∧ Only H w w') ∧ (z ≠ 0 → M'.com = M.com) from by
    rcases hp with ⟨z, rfl, z0, hz, X2, o⟩ | ⟨rfl, hz, hR, X2, o⟩
    · exact ⟨z, rfl, M, .drp _ _ (.inl ⟨z, z0, hz, rfl, rfl⟩), hh X2 (fun b hb => Ext.old hb) o (fun _ h => h), fun _ => rfl⟩
    · exact ⟨0, rfl, _, .drp _ _ (.inr ⟨hz, hR, rfl, rfl⟩), hh X2 (fun b hb => Ext.old hb) o (fun _ h => h), fun c => absurd rfl c⟩))
  have kl := X.kl
  have ml := h.ml
  have HL := hide h.lt
  have HM := hide h.hm
  clear h X hPH hh
  go_enter Tryz.func99, Tryz.ntmps99
  go_wp2_with fail
  refine (unhide CC).mono ?_
  rintro e w2 ⟨z, rfl, M', hop, ⟨hN, ho⟩, hz⟩
  clear CC c0
  by_cases z0 : z = 0
  · subst z0
    have C2 := hide (xnstep_ok hN)
    have HH := hide (And.intro hop (And.intro hN ho))
    clear hop hN ho hz
    go_wp2_with fail
    refine (unhide C2).mono ?_
    rintro e w3 ⟨rfl, hN3, o3⟩
    have HP := hide (show PmQ w m M U H 5 a bb cc s t (anE 0) w3 from ⟨M', _, _, (unhide HH).1, hN3, fun b hb => by
      have z2 := (unhide HH).2.2.size
      rcases hb with (c | c) | c
      · exact .inl c
      · exact .inr c.1
      · exact .inr (by omega), (unhide HH).2.2.trans o3 (fun b hb e => by have e' : b = m := e; rw [e']; exact unhide HM), .inr rfl⟩)
    clear C2 hN3 o3 HH
    go_wp2_with fail
    go_ret
    exact ⟨0, rfl, unhide HP⟩
  · have C2 := hide (xnstep_no w2 m z0)
    have HP := hide (show PmQ w m M U H 5 a bb cc s t (anE z) w2 from PmQ.mk hop ⟨hN, ho⟩ (hz z0))
    clear hop hN ho hz z0
    go_wp2_with fail
    refine (unhide C2).mono ?_
    rintro e w3 ⟨rfl, rfl⟩
    clear C2
    go_wp2_with fail
    go_ret
    exact ⟨z, rfl, unhide HP⟩
set_option maxRecDepth 100000 in
set_option maxHeartbeats 4000000 in
theorem n6_any (h : NX w m M U none H) (a bb cc : Int) (s t : ByteArray) : Calls Tryz.prog 100 #[.pointer (some ⟨m, 0, none⟩), .int .i64 a, .string s, .int .i64 bb] w fun e w' => ∃ z, e = .returned (.int .i64 z) ∧ PmQ w m M U H 6 a bb cc s t (anE z) w' := by
  obtain ⟨k, P, X, c0, hPH, hh⟩ := h.turn
  have CC := hide ((xmindex_any X a s bb).mono (fun e w' hp => show ∃ z, e = .returned (.int .i64 z) ∧ ∃ M', MuOp M a bb cc s t 6 M' (anE z) ∧ (NX w' m M' U none (Ext H w w') ∧ Only H w w') ∧ (z ≠ 0 → M'.com = M.com) from by
    rcases hp with ⟨z, rfl, z0, hz, X2, o⟩ | ⟨rfl, hz, hR, X2, o⟩
    · exact ⟨z, rfl, M, .cix _ _ (.inl ⟨z, z0, hz, rfl, rfl⟩), hh X2 (fun b hb => Ext.old hb) o (fun _ h => h), fun _ => rfl⟩
    · exact ⟨0, rfl, _, .cix _ _ (.inr ⟨hz, hR, rfl, rfl⟩), hh X2 (fun b hb => Ext.old hb) o (fun _ h => h), fun c => absurd rfl c⟩))
  have kl := X.kl
  have ml := h.ml
  have HL := hide h.lt
  have HM := hide h.hm
  clear h X hPH hh
  go_enter Tryz.func100, Tryz.ntmps100
  go_wp2_with fail
  refine (unhide CC).mono ?_
  rintro e w2 ⟨z, rfl, M', hop, ⟨hN, ho⟩, hz⟩
  clear CC c0
  by_cases z0 : z = 0
  · subst z0
    have C2 := hide (xnstep_ok hN)
    have HH := hide (And.intro hop (And.intro hN ho))
    clear hop hN ho hz
    go_wp2_with fail
    refine (unhide C2).mono ?_
    rintro e w3 ⟨rfl, hN3, o3⟩
    have HP := hide (show PmQ w m M U H 6 a bb cc s t (anE 0) w3 from ⟨M', _, _, (unhide HH).1, hN3, fun b hb => by
      have z2 := (unhide HH).2.2.size
      rcases hb with (c | c) | c
      · exact .inl c
      · exact .inr c.1
      · exact .inr (by omega), (unhide HH).2.2.trans o3 (fun b hb e => by have e' : b = m := e; rw [e']; exact unhide HM), .inr rfl⟩)
    clear C2 hN3 o3 HH
    go_wp2_with fail
    go_ret
    exact ⟨0, rfl, unhide HP⟩
  · have C2 := hide (xnstep_no w2 m z0)
    have HP := hide (show PmQ w m M U H 6 a bb cc s t (anE z) w2 from PmQ.mk hop ⟨hN, ho⟩ (hz z0))
    clear hop hN ho hz z0
    go_wp2_with fail
    refine (unhide C2).mono ?_
    rintro e w3 ⟨rfl, rfl⟩
    clear C2
    go_wp2_with fail
    go_ret
    exact ⟨z, rfl, unhide HP⟩
end
end Go.Proofs.Qxb6500414aGreat
