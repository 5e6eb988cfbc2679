/-
  OWN WORK. TXN: THE REAL SIDE SHOWS THE STATE; what a call leaves, in the words of the state.
-/
import Derived.Test.Qxb6500412aGreatX21
namespace Go.Proofs.Qxb6500412aGreat
open Go.RowKit Go.PlainAid
set_option linter.unusedSimpArgs false
set_option linter.unusedVariables false

/-- The manager's own blocks. -/
def Xs.own (X : Xs) (g k : Nat) : Prop := k = g ∨ X.M k ∨ X.I k
/-- The real side shows the state M; K bounds the manager's own blocks. -/
structure RX (q : Gnd) (w : World) (g x : Nat) (M : Mu) (K : Nat → Prop) : Prop where
  ex : ∃ X S T, XR q w g x X false S ∧ Lay S T ∧ ComF q.com S ∧ XOk X (dbOf T) ∧ Shw X (dbOf T) M ∧ ∀ k, X.own g k → K k
  kA : ∀ k, K k → ¬ q.A k ∧ k ≠ x ∧ k < w.heap.size
/-- A call that committed nothing. -/
def Rp (q : Gnd) (w : World) (g x : Nat) (M : Mu) (K : Nat → Prop) (w' : World) : Prop := ∃ K', RX q w' g x M K' ∧ (∀ k, K' k → K k ∨ w.heap.size ≤ k) ∧ Only (fun k => q.S k ∨ K k) w w'
/-- A call that committed. -/
def Rc (q : Gnd) (w : World) (g x : Nat) (M : Mu) (K : Nat → Prop) (w' : World) : Prop := ∃ rs com wa wb K', RX (q.done rs com wa wb) w' g x M K' ∧ w.heap.size ≤ wa.heap.size ∧ CutInv q.blk rs q.com com ∧ (∀ k, K' k → K k ∨ w.heap.size ≤ k) ∧ Only (fun k => q.A k ∨ K k) w w'
section
variable {q : Gnd} {w w' w1 : World} {g x : Nat} {M M' : Mu} {K : Nat → Prop} {X : Xs} {S : Vu} {T : List (Tb × Hd)}
theorem Lay.dgd (L : Lay S T) : DGd (dbOf T) := by
  refine ⟨fun t ht => ?_, ?_, ?_⟩
  · obtain ⟨y, hy, rfl⟩ := List.mem_map.mp ht
    exact L.tb y hy
  · unfold dbOf
    rw [List.pairwise_map]
    exact L.srt
  · unfold dbOf
    rw [List.length_map]
    exact L.len
theorem RX.Alt (R : RX q w g x M K) : (∀ k, q.A k → k < w.heap.size) ∧ x < w.heap.size := by
  obtain ⟨X, S, T, hx, _⟩ := R.ex
  exact ⟨fun k hk => hx.blt (.inl hk), hx.blt (.inr (.inl rfl))⟩
theorem RX.keep {B : Nat → Prop} (R : RX q w g x M K) (ho : Only B w w') (hB : ∀ k, q.A k ∨ k = x ∨ K k → ¬ B k) : RX q w' g x M K := by
  obtain ⟨X, S, T, hx, la, cf, ok, sh, hk⟩ := R.ex
  refine ⟨⟨X, S, T, hx.far ho (fun k h => hB k ?_), la, cf, ok, sh, hk⟩, fun k h => ⟨(R.kA k h).1, (R.kA k h).2.1, Nat.lt_of_lt_of_le (R.kA k h).2.2 ho.size⟩⟩
  rcases h with h | h | h | h | h
  · exact .inl h
  · exact .inr (.inl h)
  · exact .inr (.inr (hk k (.inl h)))
  · exact .inr (.inr (hk k (.inr (.inl h))))
  · exact .inr (.inr (hk k (.inr (.inr h))))
theorem RX.quiet (R : RX q w g x M K) (ho : Only (fun _ => False) w w') : RX q w' g x M K := R.keep ho (fun _ _ h => h)
theorem RX.Sb (R : RX q w g x M K) {k : Nat} (h : w.heap.size ≤ k) : ¬ q.S k := fun c => by have := R.Alt.1 k (Gnd.S_A c); omega
/-- Nothing of the manager has turned. -/
theorem RX.look (R : RX q w g x M K) {X : Xs} {S : Vu} {T : List (Tb × Hd)} (hx : XR q w' g x X false S) (la : Lay S T) (cf : ComF q.com S) (ok : XOk X (dbOf T)) (sh : Shw X (dbOf T) M) (hk : ∀ k, X.own g k → K k) (ho : Only q.S w w') : RX q w' g x M K :=
  ⟨⟨X, S, T, hx, la, cf, ok, sh, hk⟩, fun k h => ⟨(R.kA k h).1, (R.kA k h).2.1, Nat.lt_of_lt_of_le (R.kA k h).2.2 ho.size⟩⟩
theorem RX.look_p (R : RX q w' g x M K) (ho : Only q.S w w') : Rp q w g x M K w' := ⟨K, R, fun k h => .inl h, ho.mono (fun _ _ h => .inl h)⟩
/-- The manager has turned. -/
theorem RX.turn (R : RX q w g x M K) {Y : Xs} {S' : Vu} {T' : List (Tb × Hd)} {B : Nat → Prop} (hx : XR q w' g x Y false S') (la : Lay S' T') (cf : ComF q.com S') (ok : XOk Y (dbOf T')) (sh : Shw Y (dbOf T') M') (hk : ∀ k, Y.own g k → K k ∨ w.heap.size ≤ k) (ho : Only B w w') (hB : ∀ k, B k → q.S k ∨ K k) : Rp q w g x M' K w' := by
  refine ⟨Y.own g, ⟨⟨Y, S', T', hx, la, cf, ok, sh, fun k h => h⟩, fun k h => ?_⟩, hk, ho.mono (fun k _ h => hB k h)⟩
  have h1 := hx.off k h
  have h2 : k < w'.heap.size := hx.xm.lt k h
  exact ⟨h1.1, h1.2, h2⟩
/-- The manager has turned; it has no new block. -/
theorem RX.turnK (R : RX q w g x M K) {Y : Xs} {S' : Vu} {T' : List (Tb × Hd)} {B : Nat → Prop} (hx : XR q w' g x Y false S') (la : Lay S' T') (cf : ComF q.com S') (ok : XOk Y (dbOf T')) (sh : Shw Y (dbOf T') M') (hk : ∀ k, Y.own g k → K k) (ho : Only B w w') (hB : ∀ k, B k → q.S k ∨ K k) : RX q w' g x M' K ∧ Only (fun k => q.S k ∨ K k) w w' :=
  ⟨⟨⟨Y, S', T', hx, la, cf, ok, sh, hk⟩, fun k h => ⟨(R.kA k h).1, (R.kA k h).2.1, Nat.lt_of_lt_of_le (R.kA k h).2.2 ho.size⟩⟩, ho.mono (fun k _ h => hB k h)⟩
theorem RX.done (R : RX q w g x M K) {Y : Xs} {S' : Vu} {T' : List (Tb × Hd)} {B : Nat → Prop} {rs : List (Nat × ByteArray)} {com : List ByteArray} {wa wb : World} (hx : XR (q.done rs com wa wb) w' g x Y false S') (la : Lay S' T') (cf : ComF com S') (ok : XOk Y (dbOf T')) (sh : Shw Y (dbOf T') M') (hk : ∀ k, Y.own g k → K k ∨ w.heap.size ≤ k) (ho : Only B w w') (hB : ∀ k, B k → q.A k ∨ K k) (hw : w.heap.size ≤ wa.heap.size) (hi : CutInv q.blk rs q.com com) : Rc q w g x M' K w' := by
  refine ⟨rs, com, wa, wb, Y.own g, ⟨⟨Y, S', T', hx, la, cf, ok, sh, fun k h => h⟩, fun k h => ?_⟩, hw, hi, hk, ho.mono (fun k _ h => hB k h)⟩
  have h1 := hx.off k h
  have h2 : k < w'.heap.size := hx.xm.lt k h
  exact ⟨h1.1, h1.2, h2⟩
theorem Xs.tk_own (X : Xs) (i s : Nat) (nm : ByteArray) (mode : Int) (g k : Nat) : (X.tk i s nm mode).own g k ↔ X.own g k := by
  obtain ⟨h1, h2, _⟩ := Xs.tk_w X i s nm mode
  unfold Xs.own Xs.M Xs.I
  rw [h1, h2]
theorem Xs.setW_own {X : Xs} {s : Nat} {v : Value} {l : List WCh} {g k : Nat} (h : (X.setW s v l).own g k) : X.own g k ∨ v.ownBlock = some k ∨ WLi l k := by
  rcases h with h | ⟨o, ho, h⟩ | ⟨o, ho, h⟩
  · exact .inl (.inl h)
  · by_cases c : o = s
    · have h2 : (if o = s then v else X.wv o).ownBlock = some k := h
      rw [if_pos c] at h2
      exact .inr (.inl h2)
    · have h2 : (if o = s then v else X.wv o).ownBlock = some k := h
      rw [if_neg c] at h2
      exact .inl (.inr (.inl ⟨o, ho, h2⟩))
  · by_cases c : o = s
    · have h2 : WLi (if o = s then l else X.ws o) k := h
      rw [if_pos c] at h2
      exact .inr (.inr h2)
    · have h2 : WLi (if o = s then l else X.ws o) k := h
      rw [if_neg c] at h2
      exact .inl (.inr (.inr ⟨o, ho, h2⟩))
theorem Xs.endS_own {X : Xs} {s g k : Nat} (h : (X.endS s).own g k) : X.own g k := by
  rcases h with h | ⟨o, ho, h⟩ | ⟨o, ho, h⟩
  · exact .inl h
  · rw [endS_wv] at h
    by_cases c : o = s
    · rw [if_pos c] at h; cases h
    · rw [if_neg c] at h; exact .inr (.inl ⟨o, ho, h⟩)
  · rw [(endS_ws X s).1] at h
    by_cases c : o = s
    · rw [if_pos c] at h; obtain ⟨_, h, _⟩ := h; simp at h
    · rw [if_neg c] at h; exact .inr (.inr ⟨o, ho, h⟩)
/-- Begin. -/
theorem rbegin_any (R : RX q w g x M K) (s : Int) : Calls Tryz.prog 106 #[.pointer (some ⟨g, 0, none⟩), .int .i64 s] w fun e w' => (∃ z, e = .returned (.int .i64 z) ∧ z ≠ 0 ∧ ((¬ gdS s ∧ z = 20) ∨ (gdS s ∧ M.act s.toNat = true ∧ z = 3)) ∧ Rp q w g x M K w') ∨ (e = .returned (.int .i64 0) ∧ gdS s ∧ M.act s.toNat = false ∧ Rp q w g x (M.begin s.toNat) K w') := by
  obtain ⟨X, S, T, hx, la, cf, ok, sh, hk⟩ := R.ex
  refine (xbegin_any hx.xm s).mono ?_
  rintro e w1 ⟨rfl, hM, ho⟩
  have hB : ∀ k, k = g → q.S k ∨ K k := fun k e => .inr (hk k (.inl e))
  by_cases gd : gdS s
  · have hs4 : s.toNat < 4 := by have := gd.1; have := gd.2; omega
    cases ha : X.act s.toNat with
    | true =>
      have hz : bgE X s = 3 := by unfold bgE; rw [if_pos gd, ha]; rfl
      rw [hz, if_neg (by omega)] at hM
      rw [hz]
      exact .inl ⟨3, rfl, by omega, .inr ⟨gd, by rw [sh.act _ hs4]; exact ha, rfl⟩, R.turn (hx.own hM.has ho rfl rfl) la cf ok sh (fun k h => .inl (hk k h)) ho hB⟩
    | false =>
      have hz : bgE X s = 0 := by unfold bgE; rw [if_pos gd, ha]; rfl
      rw [hz, if_pos rfl] at hM
      rw [hz]
      obtain ⟨k1, k2⟩ := ok.begin sh hs4 ha
      exact .inr ⟨rfl, gd, by rw [sh.act _ hs4]; exact ha, R.turn (hx.own hM.has ho rfl rfl) la cf k1 k2 (fun k h => .inl (hk k h)) ho hB⟩
  · have hz : bgE X s = 20 := by unfold bgE; rw [if_neg gd]
    rw [hz, if_neg (by omega)] at hM
    rw [hz]
    exact .inl ⟨20, rfl, by omega, .inl ⟨gd, rfl⟩, R.turn (hx.own hM.has ho rfl rfl) la cf ok sh (fun k h => .inl (hk k h)) ho hB⟩
/-- Rollback. -/
theorem rroll_any (R : RX q w g x M K) (s : Int) : Calls Tryz.prog 108 #[.pointer (some ⟨g, 0, none⟩), .int .i64 s] w fun e w' => (∃ z, e = .returned (.int .i64 z) ∧ z ≠ 0 ∧ z = M.inT s ∧ Rp q w g x M K w') ∨ (e = .returned (.int .i64 0) ∧ M.inT s = 0 ∧ Rp q w g x (M.roll s.toNat) K w') := by
  obtain ⟨X, S, T, hx, la, cf, ok, sh, hk⟩ := R.ex
  refine (xrollback_any hx.xm s).mono ?_
  rintro e w1 ⟨rfl, hM, ho⟩
  have hB : ∀ k, k = g → q.S k ∨ K k := fun k e => .inr (hk k (.inl e))
  rw [sh.inT]
  by_cases h0 : inTx X s = 0
  · obtain ⟨n, rfl, hn, _⟩ := in_good h0
    rw [h0, if_pos rfl] at hM
    rw [h0]
    obtain ⟨k1, k2⟩ := ok.roll sh hn
    exact .inr ⟨rfl, rfl, R.turn (hx.ends hM ho) la cf k1 k2 (fun k h => .inl (hk k (Xs.endS_own h))) ho hB⟩
  · rw [if_neg h0] at hM
    exact .inl ⟨_, rfl, h0, rfl, R.turn (hx.own hM.has ho rfl rfl) la cf ok sh (fun k h => .inl (hk k h)) ho hB⟩
/-- Commit. -/
theorem rcommit_any (R : RX q w g x M K) (hrc : q.recs.length ≤ 300) (s : Int) : Calls Tryz.prog 107 #[.pointer (some ⟨g, 0, none⟩), .int .i64 s] w fun e w' => (∃ z, e = .returned (.int .i64 z) ∧ z ≠ 0 ∧ z = M.inT s ∧ Rp q w g x M K w') ∨ (e = .returned (.int .i64 0) ∧ M.inT s = 0 ∧ ((Rp q w g x (M.commit s.toNat) K w' ∧ (M.commit s.toNat).com = M.com) ∨ Rc q w g x (M.commit s.toNat) K w')) := by
  obtain ⟨X, S, T, hx, la, cf, ok, sh, hk⟩ := R.ex
  refine (xcommit_any hx la hrc ok s).mono ?_
  intro e w1 h
  rw [sh.inT]
  rcases h with ⟨z, rfl, hz, h0, hx1, ho⟩ | ⟨n, rfl, hn, rfl, hz, hw, hx1, ho⟩ | ⟨n, rfl, hn, rfl, hz, rs, com, wa, wb, S', T', hx1, la1, hd, cf1, ci, hw, ho⟩
  · exact .inl ⟨z, rfl, h0, hz.symm, R.turn hx1 la cf ok sh (fun k h => .inl (hk k h)) ho (fun _ h => h.elim)⟩
  · refine .inr ⟨rfl, hz, .inl ⟨?_, ?_⟩⟩
    · obtain ⟨k1, k2⟩ := ok.commit sh hn
      rw [hw, seeD_nil] at k1 k2
      exact R.turn hx1 la cf k1 k2 (fun k h => .inl (hk k (Xs.endS_own h))) ho (fun k e => .inr (hk k (.inl e)))
    · show M.see n = M.com
      rw [sh.see n hn, hw, seeD_nil, sh.com]
  · refine .inr ⟨rfl, hz, .inr ?_⟩
    obtain ⟨k1, k2⟩ := ok.commit sh hn
    rw [← hd] at k1 k2
    exact R.done hx1 la1 cf1 k1 k2 (fun k h => .inl (hk k (Xs.endS_own h))) ho (fun k e => e.elim (fun h => .inl (Gnd.D_A h)) (fun e => .inr (hk k (.inl e)))) hw ci
/-- The schema calls. -/
theorem rschema (R : RX q w g x M K) {X : Xs} {S : Vu} {T : List (Tb × Hd)} (la : Lay S T) (cf : ComF q.com S) (ok : XOk X (dbOf T)) (sh : Shw X (dbOf T) M) (hk : ∀ k, X.own g k → K k) {s : Int} {Rz : Db × Int} {e : Ending} {w1 : World} (h : SxP q w g x X S s Rz e w1) : (∃ z, e = .returned (.int .i64 z) ∧ z ≠ 0 ∧ (M.AlZ s z ∨ (M.AlZ s 0 ∧ z = Rz.2)) ∧ Rp q w g x M K w1) ∨ (e = .returned (.int .i64 0) ∧ M.AlZ s 0 ∧ Rz.2 = 0 ∧ Rc q w g x (M.schema Rz.1) K w1) := by
  rcases h with ⟨z, rfl, hz, h0, hx, ho⟩ | ⟨rfl, hz, h0, hx, ho⟩ | ⟨rfl, hz, h0, rs, com, wa, S', T', hx, hla, hd, hc, hi, hw, ho⟩
  · exact .inl ⟨z, rfl, h0, .inl (sh.al hz), (R.look hx la cf ok sh hk ho).look_p ho⟩
  · exact .inl ⟨_, rfl, h0, .inr ⟨sh.al hz, rfl⟩, (R.look hx la cf ok sh hk ho).look_p ho⟩
  · have hn : ¬ X.any := by
      rcases hz with ⟨_, h⟩ | ⟨_, _, h⟩ | ⟨_, _, _, h⟩ | ⟨_, h, _⟩
      · cases h
      · cases h
      · cases h
      · exact h
    obtain ⟨k1, k2⟩ := ok.schema sh hn hla.dgd
    have k3 : Shw X (dbOf T') (M.schema Rz.1) := by rw [← hd]; exact k2
    exact .inr ⟨rfl, sh.al hz, h0, R.done hx hla hc k1 k3 (fun k h => .inl (hk k h)) ho (fun k h => .inl (Gnd.D_A h)) hw hi⟩
theorem rcreateT_any (R : RX q w g x M K) (hrc : q.recs.length ≤ 300) (s : Int) (nm : ByteArray) {cv : Value} {cols : List Cl} (hc : OwnC w cv cols) (hcq : ∀ k, cv.ownBlock = some k → ¬ q.S k) (hc4 : cols.length ≤ 100) (pk : Int) : Calls Tryz.prog 109 #[.pointer (some ⟨g, 0, none⟩), .int .i64 s, .string nm, cv, .int .i64 pk] w fun e w' => (∃ z, e = .returned (.int .i64 z) ∧ z ≠ 0 ∧ (M.AlZ s z ∨ (M.AlZ s 0 ∧ z = (crtD M.com nm cols pk).2)) ∧ Rp q w g x M K w') ∨ (e = .returned (.int .i64 0) ∧ M.AlZ s 0 ∧ (crtD M.com nm cols pk).2 = 0 ∧ Rc q w g x (M.schema (crtD M.com nm cols pk).1) K w') := by
  obtain ⟨X, S, T, hx, la, cf, ok, sh, hk⟩ := R.ex
  rw [sh.com]
  exact (xcreateT_any hx la cf hrc s nm hc hcq hc4 pk).mono (fun e w1 h => rschema R la cf ok sh hk h)
theorem rdropT_any (R : RX q w g x M K) (hrc : q.recs.length ≤ 300) (s : Int) (nm : ByteArray) : Calls Tryz.prog 110 #[.pointer (some ⟨g, 0, none⟩), .int .i64 s, .string nm] w fun e w' => (∃ z, e = .returned (.int .i64 z) ∧ z ≠ 0 ∧ (M.AlZ s z ∨ (M.AlZ s 0 ∧ z = (drpD M.com nm).2)) ∧ Rp q w g x M K w') ∨ (e = .returned (.int .i64 0) ∧ M.AlZ s 0 ∧ (drpD M.com nm).2 = 0 ∧ Rc q w g x (M.schema (drpD M.com nm).1) K w') := by
  obtain ⟨X, S, T, hx, la, cf, ok, sh, hk⟩ := R.ex
  rw [sh.com]
  exact (xdropT_any hx la cf hrc s nm).mono (fun e w1 h => rschema R la cf ok sh hk h)
theorem rcreateI_any (R : RX q w g x M K) (hrc : q.recs.length ≤ 300) (s : Int) (nm : ByteArray) (col : Int) : Calls Tryz.prog 112 #[.pointer (some ⟨g, 0, none⟩), .int .i64 s, .string nm, .int .i64 col] w fun e w' => (∃ z, e = .returned (.int .i64 z) ∧ z ≠ 0 ∧ (M.AlZ s z ∨ (M.AlZ s 0 ∧ z = (cixD M.com nm col).2)) ∧ Rp q w g x M K w') ∨ (e = .returned (.int .i64 0) ∧ M.AlZ s 0 ∧ (cixD M.com nm col).2 = 0 ∧ Rc q w g x (M.schema (cixD M.com nm col).1) K w') := by
  obtain ⟨X, S, T, hx, la, cf, ok, sh, hk⟩ := R.ex
  rw [sh.com]
  exact (xcreateI_any hx la cf hrc s nm col).mono (fun e w1 h => rschema R la cf ok sh hk h)
/-- Insert, Update. -/
def RwP (q : Gnd) (w : World) (g x : Nat) (M : Mu) (K : Nat → Prop) (s : Int) (nm : ByteArray) (f : Db → Db × Int) (e : Ending) (w' : World) : Prop := (∃ z, e = .returned (.int .i64 z) ∧ z ≠ 0 ∧ M.TkZ s nm 2 z ∧ Rp q w g x M K w') ∨ (∃ z, e = .returned (.int .i64 z) ∧ M.TkZ s nm 2 0 ∧ z = (f (M.see s.toNat)).2 ∧ Rp q w g x ((M.setL s.toNat nm 2).setV s.toNat (f (M.see s.toNat)).1) K w')
theorem Mu.setV_same {M : Mu} {s : Nat} {D : Db} (h : M.see s = D) : M.setV s D = M := by
  unfold Mu.setV
  congr 1
  funext o
  by_cases c : o = s
  · rw [if_pos c, c, h]
  · rw [if_neg c]
theorem rwrite (R : RX q w g x M K) {X : Xs} {S : Vu} {T : List (Tb × Hd)} (la : Lay S T) (cf : ComF q.com S) (ok : XOk X (dbOf T)) (sh : Shw X (dbOf T) M) (hk : ∀ k, X.own g k → K k) {s : Int} {nm : ByteArray} {row : List Vl} (hw : ∀ v ∈ row, v.wf) {fresh : Bool} {e : Ending} {w1 : World} (h : WrP q w g x X false S T s nm row fresh e w1) : RwP q w g x M K s nm (fun D => wrD fresh D nm row) e w1 := by
  have hBg : ∀ k, (q.S k ∨ k = g) → q.S k ∨ K k := fun k h => h.imp id (fun e => hk k (.inl e))
  rcases h with ⟨z, rfl, hz, hx, ho⟩ | ⟨t, hd, i, z, ht, rfl, h0, hi, rfl, hz, hx, ho⟩ | ⟨t, hd, i, ht, rfl, h0, hi, rfl, hok, v', l', ⟨n, hit, u, hf, rfl⟩, hx, ho, hnw⟩
  · obtain ⟨a, b⟩ := ok.tkE sh hz
    exact .inl ⟨z, rfl, b, a, R.turn hx la cf ok sh (fun k h => .inl (hk k h)) ho hBg⟩
  · have htD : t ∈ dbOf T := List.mem_map.mpr ⟨_, ht, rfl⟩
    obtain ⟨a, b, c⟩ := ok.tkI sh (.inr rfl) h0 ⟨t, htD, rfl⟩ hi
    obtain ⟨m, rfl, hm, _⟩ := in_good h0
    have hm2 : ((m : Nat) : Int).toNat = m := by omega
    rw [hm2] at hz hx b c
    have hr := wr_err (ok.ws m hm) ok.db htD hw hz
    refine .inr ⟨z, rfl, a, ?_, ?_⟩
    · rw [hm2, sh.see m hm]
      show z = (wrD fresh (seeD (X.ws m) (dbOf T)) t.nm row).2
      rw [hr]
    · rw [hm2, sh.see m hm]
      show Rp q w g x ((M.setL m t.nm 2).setV m (wrD fresh (seeD (X.ws m) (dbOf T)) t.nm row).1) K w1
      rw [hr, Mu.setV_same (show (M.setL m t.nm 2).see m = seeD (X.ws m) (dbOf T) from sh.see m hm)]
      exact R.turn hx la cf b c (fun k h => .inl (hk k ((Xs.tk_own X i m t.nm 2 g k).mp h))) ho hBg
  · have htD : t ∈ dbOf T := List.mem_map.mpr ⟨_, ht, rfl⟩
    obtain ⟨a, b, c⟩ := ok.tkI sh (.inr rfl) h0 ⟨t, htD, rfl⟩ hi
    obtain ⟨m, rfl, hm, ham⟩ := in_good h0
    have hm2 : ((m : Nat) : Int).toNat = m := by omega
    rw [hm2] at hok hx b c ho hf hnw
    obtain ⟨r1, r2⟩ := wr_ok (ok.ws m hm) ok.db htD hw hok (u := u) hf
    have hws : (X.tk i m t.nm 2).ws = X.ws := (Xs.tk_w X i m t.nm 2).2.1
    obtain ⟨d1, d2⟩ := b.setW c hm (v := v') r1 (fun ch hch => by
      rcases putW_mem hch with h | h
      · exact .inl (by rw [hws]; exact h)
      · refine .inr ?_
        rw [h]
        rw [← c.lk m t.nm hm]
        show (if m = m ∧ t.nm = t.nm ∧ M.lk m t.nm < 2 then (2 : Int) else M.lk m t.nm) = 2
        by_cases hl : M.lk m t.nm < 2
        · rw [if_pos ⟨rfl, rfl, hl⟩]
        · rw [if_neg (fun x => hl x.2.2)]
          have := (ok.lk.rg hm t.nm).2
          rw [← sh.lk m t.nm hm] at this
          omega) (by rw [(Xs.tk_w X i m t.nm 2).2.2]; exact ham)
    refine .inr ⟨0, rfl, a, ?_, ?_⟩
    · rw [hm2, sh.see m hm]
      show 0 = (wrD fresh (seeD (X.ws m) (dbOf T)) t.nm row).2
      rw [r2]
    · rw [hm2, sh.see m hm]
      show Rp q w g x ((M.setL m t.nm 2).setV m (wrD fresh (seeD (X.ws m) (dbOf T)) t.nm row).1) K w1
      rw [r2]
      refine R.turn hx la cf d1 d2 (fun k h => ?_) ho (fun k h => ?_)
      · rcases Xs.setW_own h with h | h
        · exact .inl (hk k ((Xs.tk_own X i m t.nm 2 g k).mp h))
        · rcases hnw k h with h | h | h
          · exact .inl (hk k (.inr (.inl h)))
          · exact .inl (hk k (.inr (.inr h)))
          · exact .inr h
      · rcases h with h | h | h
        · exact .inl h
        · exact .inr (hk k (.inl h))
        · exact .inr (hk k (.inr (.inl ⟨m, hm, h⟩)))
theorem wf_at {row : List Vl} (hw : ∀ v ∈ row, v.wf) (c : Nat) : (atV row (c : Int)).wf := by
  rw [atV_ky]
  unfold kyR
  cases h : row[c]? with
  | none => exact .inl ⟨rfl, rfl, by unfold In64; decide⟩
  | some v => exact hw v (List.mem_of_getElem? h)
theorem rinsert_any (R : RX q w g x M K) (s : Int) (nm : ByteArray) {ra : Option Addr} {rn rc : Nat} {row : List Vl} (hr : OwnV w (.slice ra rn rc) row) (hrq : ∀ k, (Value.slice ra rn rc).ownBlock = some k → ¬ q.S k) (hr4 : row.length ≤ 200) (hw : ∀ v ∈ row, v.wf) : Calls Tryz.prog 170 #[.pointer (some ⟨g, 0, none⟩), .int .i64 s, .string nm, .slice ra rn rc] w (RwP q w g x M K s nm (fun D => insD D nm row)) := by
  obtain ⟨X, S, T, hx, la, cf, ok, sh, hk⟩ := R.ex
  exact (xinsert_any hx la ok.bounds s nm hr hrq hr4 (wf_at hw)).mono (fun e w1 h => rwrite R la cf ok sh hk hw h)
theorem rupdate_any (R : RX q w g x M K) (s : Int) (nm : ByteArray) {ra : Option Addr} {rn rc : Nat} {row : List Vl} (hr : OwnV w (.slice ra rn rc) row) (hrq : ∀ k, (Value.slice ra rn rc).ownBlock = some k → ¬ q.S k) (hr4 : row.length ≤ 200) (hw : ∀ v ∈ row, v.wf) : Calls Tryz.prog 252 #[.pointer (some ⟨g, 0, none⟩), .int .i64 s, .string nm, .slice ra rn rc] w (RwP q w g x M K s nm (fun D => updD D nm row)) := by
  obtain ⟨X, S, T, hx, la, cf, ok, sh, hk⟩ := R.ex
  exact (xupdate_any hx la ok.bounds s nm hr hrq hr4 (wf_at hw)).mono (fun e w1 h => rwrite R la cf ok sh hk hw h)
/-- Delete. -/
theorem rdelete_any (R : RX q w g x M K) (s : Int) (nm : ByteArray) (key : Vl) (hkw : key.wf) : Calls Tryz.prog 251 #[.pointer (some ⟨g, 0, none⟩), .int .i64 s, .string nm, vlA key] w (RwP q w g x M K s nm (fun D => delD D nm key)) := by
  obtain ⟨X, S, T, hx, la, cf, ok, sh, hk⟩ := R.ex
  refine (xdelete_any hx la ok.bounds s nm key hkw).mono ?_
  intro e w1 h
  have hBg : ∀ k, (q.S k ∨ k = g) → q.S k ∨ K k := fun k h => h.imp id (fun e => hk k (.inl e))
  rcases h with ⟨z, rfl, hz, hx, ho⟩ | ⟨t, hd, i, z, ht, rfl, h0, hi, rfl, hz, hx, ho⟩ | ⟨t, hd, i, ht, rfl, h0, hi, rfl, hc, hh, v', l', hl, hx, ho, hnw⟩
  · obtain ⟨a, b⟩ := ok.tkE sh hz
    exact .inl ⟨z, rfl, b, a, R.turn hx la cf ok sh (fun k h => .inl (hk k h)) ho hBg⟩
  · have htD : t ∈ dbOf T := List.mem_map.mpr ⟨_, ht, rfl⟩
    obtain ⟨a, b, c⟩ := ok.tkI sh (.inr rfl) h0 ⟨t, htD, rfl⟩ hi
    obtain ⟨m, rfl, hm, _⟩ := in_good h0
    have hm2 : ((m : Nat) : Int).toNat = m := by omega
    rw [hm2] at hz hx b c
    have hr := dl_err (ok.ws m hm) ok.db htD hkw hz
    refine .inr ⟨z, rfl, a, ?_, ?_⟩
    · rw [hm2, sh.see m hm]
      show z = (delD (seeD (X.ws m) (dbOf T)) t.nm key).2
      rw [hr]
    · rw [hm2, sh.see m hm]
      show Rp q w g x ((M.setL m t.nm 2).setV m (delD (seeD (X.ws m) (dbOf T)) t.nm key).1) K w1
      rw [hr, Mu.setV_same (show (M.setL m t.nm 2).see m = seeD (X.ws m) (dbOf T) from sh.see m hm)]
      exact R.turn hx la cf b c (fun k h => .inl (hk k ((Xs.tk_own X i m t.nm 2 g k).mp h))) ho hBg
  · have htD : t ∈ dbOf T := List.mem_map.mpr ⟨_, ht, rfl⟩
    obtain ⟨a, b, c⟩ := ok.tkI sh (.inr rfl) h0 ⟨t, htD, rfl⟩ hi
    obtain ⟨m, rfl, hm, ham⟩ := in_good h0
    have hm2 : ((m : Nat) : Int).toNat = m := by omega
    rw [hm2] at hh hl hx b c ho
    obtain ⟨r1, r2⟩ := dl_ok (ok.ws m hm) ok.db htD hkw hc hh hl
    have hws : (X.tk i m t.nm 2).ws = X.ws := (Xs.tk_w X i m t.nm 2).2.1
    have hlk2 : (X.tk i m t.nm 2).lk m t.nm = 2 := by
      rw [← c.lk m t.nm hm]
      show (if m = m ∧ t.nm = t.nm ∧ M.lk m t.nm < 2 then (2 : Int) else M.lk m t.nm) = 2
      by_cases hl : M.lk m t.nm < 2
      · rw [if_pos ⟨rfl, rfl, hl⟩]
      · rw [if_neg (fun x => hl x.2.2)]
        have := (ok.lk.rg hm t.nm).2
        rw [← sh.lk m t.nm hm] at this
        omega
    obtain ⟨d1, d2⟩ := b.setW c hm (v := v') r1 (fun ch hch => by
      obtain ⟨n, hit, hf, rfl⟩ := hl
      split at hch
      · rcases putW_mem hch with h | h
        · exact .inl (by rw [hws]; exact h)
        · refine .inr ?_
          rw [h]
          exact hlk2
      · refine .inl ?_
        rw [hws]
        unfold drpW at hch
        split at hch
        · exact List.mem_of_mem_eraseIdx hch
        · exact hch) (by rw [(Xs.tk_w X i m t.nm 2).2.2]; exact ham)
    refine .inr ⟨0, rfl, a, ?_, ?_⟩
    · rw [hm2, sh.see m hm]
      show 0 = (delD (seeD (X.ws m) (dbOf T)) t.nm key).2
      rw [r2]
    · rw [hm2, sh.see m hm]
      show Rp q w g x ((M.setL m t.nm 2).setV m (delD (seeD (X.ws m) (dbOf T)) t.nm key).1) K w1
      rw [r2]
      refine R.turn hx la cf d1 d2 (fun k h => ?_) ho (fun k h => ?_)
      · rcases Xs.setW_own h with h | h
        · exact .inl (hk k ((Xs.tk_own X i m t.nm 2 g k).mp h))
        · rcases hnw k h with h | h | h
          · exact .inl (hk k (.inr (.inl h)))
          · exact .inl (hk k (.inr (.inr h)))
          · exact .inr h
      · rcases h with h | h | h
        · exact .inl h
        · exact .inr (hk k (.inl h))
        · exact .inr (hk k (.inr (.inl ⟨m, hm, h⟩)))
/-- Lookup. -/
theorem rlookup_any (R : RX q w g x M K) (s : Int) (nm : ByteArray) (key : Vl) (hkw : key.wf) : Calls Tryz.prog 247 #[.pointer (some ⟨g, 0, none⟩), .int .i64 s, .string nm, vlA key] w fun e w' => (∃ z, e = .returned (.tuple #[.slice none 0 0, .int .i64 z]) ∧ z ≠ 0 ∧ M.TkZ s nm 1 z ∧ RX q w' g x M K ∧ Only (fun k => q.S k ∨ K k) w w') ∨ (∃ v, e = .returned (.tuple #[v, .int .i64 (lkpD (M.see s.toNat) nm key).2]) ∧ M.TkZ s nm 1 0 ∧ OwnV w' v (lkpD (M.see s.toNat) nm key).1 ∧ Newer w v ∧ RX q w' g x (M.setL s.toNat nm 1) K ∧ Only (fun k => q.S k ∨ K k) w w') := by
  obtain ⟨X, S, T, hx, la, cf, ok, sh, hk⟩ := R.ex
  refine (xlookup_any hx la ok.bounds s nm key hkw).mono ?_
  intro e w1 h
  have hBg : ∀ k, (q.S k ∨ k = g) → q.S k ∨ K k := fun k h => h.imp id (fun e => hk k (.inl e))
  rcases h with ⟨z, rfl, hz, hx, ho⟩ | ⟨t, hd, i, ht, rfl, h0, hi, v, rfl, hv, hw, hx, ho⟩
  · obtain ⟨a, b⟩ := ok.tkE sh hz
    exact .inl ⟨z, rfl, b, a, R.turnK hx la cf ok sh hk ho hBg⟩
  · have htD : t ∈ dbOf T := List.mem_map.mpr ⟨_, ht, rfl⟩
    obtain ⟨a, b, c⟩ := ok.tkI sh (.inl rfl) h0 ⟨t, htD, rfl⟩ hi
    obtain ⟨m, rfl, hm, _⟩ := in_good h0
    have hm2 : ((m : Nat) : Int).toNat = m := by omega
    rw [hm2] at hv hx b c ⊢
    rw [lk_see (ok.ws m hm).o ok.db t.nm hkw, ← sh.see m hm] at hv
    refine .inr ⟨v, ?_, a, hv, hw, R.turnK hx la cf b c (fun k h => hk k ((Xs.tk_own X i m t.nm 1 g k).mp h)) ho hBg⟩
    rw [lk_see (ok.ws m hm).o ok.db t.nm hkw, ← sh.see m hm]
theorem RL.nil (lo : Nat) (w : World) : RL lo (.slice none 0 0) [] w := ⟨World.ownsRow_nil _ _ _ _, by simp, (fun k h => by cases h), List.Pairwise.nil⟩
/-- Scan. -/
theorem rscan_any (R : RX q w g x M K) (s : Int) (nm : ByteArray) (col : Int) (lh hh : Bool) (lv hv : Vl) (hlw : lv.wf) (hhw : hv.wf) : Calls Tryz.prog 248 #[.pointer (some ⟨g, 0, none⟩), .int .i64 s, .string nm, .int .i64 col, bdA lh lv, bdA hh hv] w fun e w' => (∃ z, e = .returned (.tuple #[.slice none 0 0, .int .i64 z]) ∧ z ≠ 0 ∧ M.TkZ s nm 1 z ∧ RX q w' g x M K ∧ Only (fun k => q.S k ∨ K k) w w') ∨ (∃ v Z, e = .returned (.tuple #[v, .int .i64 (scnD (M.see s.toNat) nm col (bndOf lh lv) (bndOf hh hv)).2]) ∧ M.TkZ s nm 1 0 ∧ RL w.heap.size v Z w' ∧ Z.map (·.2) = (scnD (M.see s.toNat) nm col (bndOf lh lv) (bndOf hh hv)).1 ∧ RX q w' g x (M.setL s.toNat nm 1) K ∧ Only (fun k => q.S k ∨ K k) w w') := by
  obtain ⟨X, S, T, hx, la, cf, ok, sh, hk⟩ := R.ex
  refine (xscan_any hx la ok.bounds s nm col lh hh lv hv hlw hhw).mono ?_
  intro e w1 h
  have hBg : ∀ k, (q.S k ∨ k = g) → q.S k ∨ K k := fun k h => h.imp id (fun e => hk k (.inl e))
  rcases h with ⟨z, rfl, hz, hx, ho⟩ | ⟨t, hd, i, ht, rfl, h0, hi, hz, rfl, hx, ho⟩ | ⟨t, hd, i, ht, rfl, h0, hi, hz, v, Z, rfl, hr, hq, hx, ho⟩
  · obtain ⟨a, b⟩ := ok.tkE sh hz
    exact .inl ⟨z, rfl, b, a, R.turnK hx la cf ok sh hk ho hBg⟩
  all_goals
    have htD : t ∈ dbOf T := List.mem_map.mpr ⟨_, ht, rfl⟩
    obtain ⟨a, b, c⟩ := ok.tkI sh (.inl rfl) h0 ⟨t, htD, rfl⟩ hi
    obtain ⟨m, rfl, hm, _⟩ := in_good h0
    have hm2 : ((m : Nat) : Int).toNat = m := by omega
    obtain ⟨e1, e2, e3⟩ := scn_see (ok.ws m hm) ok.db htD col (bndOf lh lv) (bndOf hh hv)
  · rw [hm2] at hx b c ⊢
    refine .inr ⟨.slice none 0 0, [], ?_, a, ?_, ?_, R.turnK hx la cf b c (fun k h => hk k ((Xs.tk_own X i m t.nm 1 g k).mp h)) ho hBg⟩
    · rw [sh.see m hm, e1]
    · exact RL.nil _ _
    · rw [sh.see m hm, e3 hz]; rfl
  · rw [hm2] at hq hx b c ⊢
    refine .inr ⟨v, Z, ?_, a, hr, ?_, R.turnK hx la cf b c (fun k h => hk k ((Xs.tk_own X i m t.nm 1 g k).mp h)) ho hBg⟩
    · rw [sh.see m hm, e1, hz]
    · rw [sh.see m hm, ← e2 hz]; exact hq
/-- View. -/
theorem rview_any (R : RX q w g x M K) (s : Int) (nm : ByteArray) : Calls Tryz.prog 114 #[.pointer (some ⟨g, 0, none⟩), .int .i64 s, .string nm] w fun e w' => RX q w' g x M K ∧ Only q.S w w' ∧ ((¬ gdS s ∧ e = .returned (.tuple #[.slice none 0 0, .int .i64 20])) ∨ (gdS s ∧ findD M.com nm = none ∧ e = .returned (.tuple #[.slice none 0 0, .int .i64 10])) ∨ (∃ t v Z, gdS s ∧ findD (M.see s.toNat) nm = some t ∧ findD M.com nm ≠ none ∧ e = .returned (.tuple #[v, .int .i64 0]) ∧ RL w.heap.size v Z w' ∧ Z.map (·.2) = t.rows)) := by
  obtain ⟨X, S, T, hx, la, cf, ok, sh, hk⟩ := R.ex
  refine (xview_any hx la ok.bounds s nm).mono ?_
  intro e w1 h
  rw [sh.com]
  rcases h with ⟨hs, rfl, hx, ho⟩ | ⟨hs, hf, rfl, hx, ho⟩ | ⟨hs, t, hf, v, Z, rfl, hr, hz, hx, ho⟩
  · exact ⟨R.look hx la cf ok sh hk ho, ho, .inl ⟨hs, rfl⟩⟩
  · exact ⟨R.look hx la cf ok sh hk ho, ho, .inr (.inl ⟨hs, hf, rfl⟩)⟩
  · refine ⟨R.look hx la cf ok sh hk ho, ho, .inr (.inr ⟨seeT (X.ws s.toNat) t, v, Z, hs, ?_, by rw [hf]; simp, rfl, hr, ?_⟩)⟩
    · have hs4 : s.toNat < 4 := by have := hs.1; have := hs.2; omega
      rw [sh.see _ hs4, seeD_find, hf]
      rfl
    · have hs4 : s.toNat < 4 := by have := hs.1; have := hs.2; omega
      obtain ⟨h1, rfl⟩ := findD_mem hf
      rw [← vw_see (ok.ws _ hs4) ok.db h1]
      exact hz
/-- Active, LockOf, Tables, SchemaOf. -/
theorem ractive_any (R : RX q w g x M K) (s : Int) : Calls Tryz.prog 63 #[.pointer (some ⟨g, 0, none⟩), .int .i64 s] w fun e w' => e = .returned (.bool (decide (gdS s) && M.act s.toNat)) ∧ w = w' := by
  obtain ⟨X, S, T, hx, la, cf, ok, sh, hk⟩ := R.ex
  refine (xactive_any hx.xm.has s).mono ?_
  rintro e w1 ⟨rfl, rfl⟩
  refine ⟨?_, rfl⟩
  unfold actP
  by_cases gd : gdS s
  · rw [sh.act s.toNat (by have := gd.1; have := gd.2; omega)]
  · rw [decide_eq_false gd]
    rfl
theorem rlockOf_any (R : RX q w g x M K) (s : Int) (nm : ByteArray) : Calls Tryz.prog 136 #[.pointer (some ⟨g, 0, none⟩), .int .i64 s, .string nm] w fun e w' => e = .returned (.int .i64 (if gdS s then M.lk s.toNat nm else 0)) ∧ w = w' := by
  obtain ⟨X, S, T, hx, la, cf, ok, sh, hk⟩ := R.ex
  refine (xlockOf_any hx.xm.has s nm).mono ?_
  rintro e w1 ⟨z, rfl, ⟨r, hr, hz⟩, rfl⟩
  refine ⟨?_, rfl⟩
  by_cases gd : gdS s
  · rw [if_pos gd, sh.lk s.toNat nm (by have := gd.1; have := gd.2; omega), hr.lk, hz]
    by_cases c : 0 ≤ r
    · rw [if_pos ⟨gd, c⟩, if_pos c]
    · rw [if_neg (fun x => c x.2), if_neg c]
  · rw [if_neg gd, hz, if_neg (fun x => gd x.1)]
theorem rtables_any (R : RX q w g x M K) : Calls Tryz.prog 80 #[.pointer (some ⟨g, 0, none⟩)] w fun e w' => ∃ v, e = .returned v ∧ OwnN w' v (namesD M.com) ∧ Newer w v ∧ RX q w' g x M K ∧ Only q.S w w' := by
  obtain ⟨X, S, T, hx, la, cf, ok, sh, hk⟩ := R.ex
  refine (xtables_any hx la).mono ?_
  rintro e w1 ⟨v, rfl, h1, h2, h3, ho⟩
  exact ⟨v, rfl, by rw [sh.com]; exact h1, h2, R.look h3 la cf ok sh hk ho, ho⟩
theorem rschemaOf_any (R : RX q w g x M K) (nm : ByteArray) : Calls Tryz.prog 81 #[.pointer (some ⟨g, 0, none⟩), .string nm] w fun e w' => RX q w' g x M K ∧ Only q.S w w' ∧ ((findD M.com nm = none ∧ e = .returned (.tuple #[.agg scN, .int .i64 10])) ∨ ∃ t cv, findD M.com nm = some t ∧ e = .returned (.tuple #[.agg (scC t.nm cv (t.pk : Int) (ixI t.ix)), .int .i64 0]) ∧ OwnC w' cv t.cols ∧ Newer w cv) := by
  obtain ⟨X, S, T, hx, la, cf, ok, sh, hk⟩ := R.ex
  refine (xschemaOf_any hx la nm).mono ?_
  intro e w1 h
  rw [sh.com]
  rcases h with ⟨hf, he, hx, ho⟩ | ⟨t, hf, cv, he, hc, hn, hx, ho⟩
  · exact ⟨R.look hx la cf ok sh hk ho, ho, .inl ⟨hf, he⟩⟩
  · exact ⟨R.look hx la cf ok sh hk ho, ho, .inr ⟨t, cv, hf, he, hc, hn⟩⟩
end
end Go.Proofs.Qxb6500412aGreat
