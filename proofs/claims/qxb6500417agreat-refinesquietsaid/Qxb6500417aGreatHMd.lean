/-
  OWN WORK. THE GRAPH's MODEL: its memory.
-/
import Derived.Test.Qxb6500417aGreatHWt2
namespace Go.Proofs.Qxb6500417aGreat
open Go.RowKit Go.PlainAid
set_option linter.unusedSimpArgs false
set_option linter.unusedVariables false

/-- A state's lists, their blocks within O. -/
structure StV (w : World) (nv rv av : Value) (A : GA) (O : Nat → Prop) : Prop where
  nd : ∃ rs, rs.map NRow.x = A.nodes ∧ NL O w nv rs
  rf : OwnRf w rv A.refs
  rfb : ∀ y, rv.ownBlock = some y → O y
  ax : OwnF w av A.aux
  axb : ∀ y, av.ownBlock = some y → O y
/-- The state is small. -/
structure ASm (A : GA) : Prop where
  n : A.nodes.length ≤ 40
  s : NdS A.nodes
  sn : SnS (A.nodes.map Nd.files ++ [A.aux])
  p : ∀ x ∈ A.nodes, x.par.length ≤ 1000
  r : A.refs.length ≤ 100
theorem ASm.sml {A : GA} (h : ASm A) : Sml A.nodes := fun x hx => ⟨by
  have := h.sn.l x.files (List.mem_append_left _ (List.mem_map.2 ⟨x, hx, rfl⟩)); omega, h.p x hx⟩
theorem ASm.aux {A : GA} (h : ASm A) : A.aux.length ≤ 9 := h.sn.l _ (List.mem_append_right _ (by simp))
structure Bs where
  b0 : Value
  b1 : Value
  b2 : Value
  b3 : Value
  b4 : Value
  b5 : Value
  b6 : Value
  b7 : Value
def gmC (nv rv av : Value) (A : GA) (r : Int) (nv' rv' av' : Value) (S : GA) (sr : Int) (lx : Bool) (b : Bs) (hv : Value) : Array Value :=
  #[nv, .int .i64 (A.nx : Int), rv, .string A.hn, .int .i64 (A.hs : Int), .int .i64 (A.hm : Int), av, .int .i64 r, nv', .int .i64 (S.nx : Int), rv', .string S.hn, .int .i64 (S.hs : Int), .int .i64 (S.hm : Int), av', .int .i64 sr, .bool lx, b.b0, b.b1, b.b2, b.b3, b.b4, b.b5, b.b6, b.b7, hv]
/-- The model: what it shows and its room, what is saved and its room; hz: nothing was saved since the mark; H: all its blocks. -/
structure MG (w : World) (m : Nat) (lx : Bool) (A : GA) (r : Int) (S : GA) (sr : Int) (hz : Bool) (H : Nat → Prop) : Prop where
  ex : ∃ nv rv av nv' rv' av' b hv P O, Has w m (gmC nv rv av A r nv' rv' av' S sr lx b hv) 63 ∧ StV w nv rv av A P ∧ StV w nv' rv' av' S O ∧ (hz = true → hv = .slice none 0 0) ∧ (∃ a n c, hv = .slice a n c) ∧ (∀ k, P k → ¬ O k ∧ H k ∧ k ≠ m) ∧ (∀ k, O k → H k ∧ k ≠ m)
  hm : H m
  inn : ∀ k, H k → k < w.heap.size
section
variable {w w' : World} {nv rv av : Value} {A S : GA} {O P H : Nat → Prop} {m : Nat} {lx hz : Bool} {r sr : Int}
theorem StV.keep (h : StV w nv rv av A O) (ho : Only P w w') (hP : ∀ y, O y → ¬ P y) : StV w' nv rv av A O := by
  obtain ⟨rs, e, hL⟩ := h.nd
  exact ⟨⟨rs, e, hL.keep ho hP⟩, h.rf.keep ho (fun k hk => hP k (h.rfb k hk)), h.rfb, h.ax.keep ho (fun k hk => hP k (h.axb k hk)), h.axb⟩
theorem StV.quiet (h : StV w nv rv av A O) (ho : Only (fun _ => False) w w') : StV w' nv rv av A O := h.keep ho (fun _ _ h => h)
theorem StV.mono (h : StV w nv rv av A O) (hO : ∀ y, O y → P y) : StV w nv rv av A P := by
  obtain ⟨rs, e, hL⟩ := h.nd
  exact ⟨⟨rs, e, hL.mono hO⟩, h.rf, fun y hy => hO y (h.rfb y hy), h.ax, fun y hy => hO y (h.axb y hy)⟩
theorem StV.nin (h : StV w nv rv av A O) : NodesIn O w nv A.nodes := by
  obtain ⟨rs, e, hL⟩ := h.nd
  rw [← e]; exact hL.in_
theorem NL.lt {v : Value} {rs : List NRow} (h : NL O w v rs) : NL (fun y => O y ∧ y < w.heap.size) w v rs :=
  ⟨h.own, h.inn, fun y hy => ⟨h.hv y hy, ownsRow_lt h.own y hy⟩, fun r hr y hy => ⟨h.hr r hr y hy, (h.inn r hr).lt y hy⟩, h.ne⟩
theorem StV.lt (h : StV w nv rv av A O) : StV w nv rv av A (fun y => O y ∧ y < w.heap.size) := by
  obtain ⟨rs, e, hL⟩ := h.nd
  exact ⟨⟨rs, e, hL.lt⟩, h.rf, fun y hy => ⟨h.rfb y hy, ownsRow_lt h.rf y hy⟩, h.ax, fun y hy => ⟨h.axb y hy, ownsRow_lt h.ax y hy⟩⟩
theorem StV.congr {A' : GA} (h : StV w nv rv av A O) (h1 : A'.nodes = A.nodes) (h2 : A'.refs = A.refs) (h3 : A'.aux = A.aux) : StV w nv rv av A' O := by
  obtain ⟨rs, e, hL⟩ := h.nd
  exact ⟨⟨rs, by rw [h1]; exact e, hL⟩, by rw [h2]; exact h.rf, h.rfb, by rw [h3]; exact h.ax, h.axb⟩
theorem StV.shape (h : StV w nv rv av A O) : (∃ a c, nv = .slice a A.nodes.length c) ∧ (∃ a c, rv = .slice a A.refs.length c) ∧ ∃ a c, av = .slice a A.aux.length c :=
  ⟨h.nin.shape, ownsRow_shape h.rf, ownsRow_shape h.ax⟩
theorem MG.keep (h : MG w m lx A r S sr hz H) (ho : Only P w w') (hP : ∀ k, H k → ¬ P k) : MG w' m lx A r S sr hz H := by
  obtain ⟨nv, rv, av, nv', rv', av', b, hv, Q, O, h1, h2, h3, h4, h5, h6, h7⟩ := h.ex
  exact ⟨⟨nv, rv, av, nv', rv', av', b, hv, Q, O, h1.keep ho (hP m h.hm), h2.keep ho (fun k hk => hP k (h6 k hk).2.1), h3.keep ho (fun k hk => hP k (h7 k hk).1), h4, h5, h6, h7⟩, h.hm, fun k hk => Nat.lt_of_lt_of_le (h.inn k hk) ho.size⟩
theorem MG.quiet (h : MG w m lx A r S sr hz H) (ho : Only (fun _ => False) w w') : MG w' m lx A r S sr hz H := h.keep ho (fun _ _ h => h)
theorem MG.mono (h : MG w m lx A r S sr hz H) (hH : ∀ k, H k → P k) (hi : ∀ k, P k → k < w.heap.size) : MG w m lx A r S sr hz P := by
  obtain ⟨nv, rv, av, nv', rv', av', b, hv, Q, O, h1, h2, h3, h4, h5, h6, h7⟩ := h.ex
  exact ⟨⟨nv, rv, av, nv', rv', av', b, hv, Q, O, h1, h2, h3, h4, h5, fun k hk => ⟨(h6 k hk).1, hH k (h6 k hk).2.1, (h6 k hk).2.2⟩, fun k hk => ⟨hH k (h7 k hk).1, (h7 k hk).2⟩⟩, hH m h.hm, hi⟩
theorem MG.lt (h : MG w m lx A r S sr hz H) : m < w.heap.size := h.inn m h.hm
theorem MG.any (h : MG w m lx A r S sr hz H) : MG w m lx A r S sr false H := by
  obtain ⟨nv, rv, av, nv', rv', av', b, hv, Q, O, h1, h2, h3, h4, h5, h6, h7⟩ := h.ex
  exact ⟨⟨nv, rv, av, nv', rv', av', b, hv, Q, O, h1, h2, h3, (fun e => by cases e), h5, h6, h7⟩, h.hm, h.inn⟩
/-- The running state's cells. -/
theorem MG.cur (h : MG w m lx A r S sr hz H) : ∃ na nc ra rc aa ac, w.cell? ⟨m, 0, none⟩ = some (.slice na A.nodes.length nc) ∧ w.cell? ⟨m, 1, none⟩ = some (.int .i64 (A.nx : Int)) ∧ w.cell? ⟨m, 2, none⟩ = some (.slice ra A.refs.length rc) ∧ w.cell? ⟨m, 3, none⟩ = some (.string A.hn) ∧ w.cell? ⟨m, 4, none⟩ = some (.int .i64 (A.hs : Int)) ∧ w.cell? ⟨m, 5, none⟩ = some (.int .i64 (A.hm : Int)) ∧ w.cell? ⟨m, 6, none⟩ = some (.slice aa A.aux.length ac) ∧ w.cell? ⟨m, 7, none⟩ = some (.int .i64 r) ∧ w.cell? ⟨m, 16, none⟩ = some (.bool lx) ∧ StV w (.slice na A.nodes.length nc) (.slice ra A.refs.length rc) (.slice aa A.aux.length ac) A (fun y => H y ∧ y ≠ m) := by
  obtain ⟨nv, rv, av, nv', rv', av', b, hv, Q, O, h1, h2, h3, h4, h5, h6, h7⟩ := h.ex
  obtain ⟨⟨na, nc, rfl⟩, ⟨ra, rc, rfl⟩, ⟨aa, ac, rfl⟩⟩ := h2.shape
  exact ⟨na, nc, ra, rc, aa, ac, h1.cell 0, h1.cell 1, h1.cell 2, h1.cell 3, h1.cell 4, h1.cell 5, h1.cell 6, h1.cell 7, h1.cell 16, h2.mono (fun y hy => ⟨(h6 y hy).2.1, (h6 y hy).2.2⟩)⟩
/-- The saved state's cells. -/
theorem MG.sav (h : MG w m lx A r S sr hz H) : ∃ na nc ra rc aa ac, w.cell? ⟨m, 8, none⟩ = some (.slice na S.nodes.length nc) ∧ w.cell? ⟨m, 9, none⟩ = some (.int .i64 (S.nx : Int)) ∧ w.cell? ⟨m, 10, none⟩ = some (.slice ra S.refs.length rc) ∧ w.cell? ⟨m, 11, none⟩ = some (.string S.hn) ∧ w.cell? ⟨m, 12, none⟩ = some (.int .i64 (S.hs : Int)) ∧ w.cell? ⟨m, 13, none⟩ = some (.int .i64 (S.hm : Int)) ∧ w.cell? ⟨m, 14, none⟩ = some (.slice aa S.aux.length ac) ∧ w.cell? ⟨m, 15, none⟩ = some (.int .i64 sr) ∧ w.cell? ⟨m, 16, none⟩ = some (.bool lx) ∧ StV w (.slice na S.nodes.length nc) (.slice ra S.refs.length rc) (.slice aa S.aux.length ac) S (fun y => H y ∧ y ≠ m) := by
  obtain ⟨nv, rv, av, nv', rv', av', b, hv, Q, O, h1, h2, h3, h4, h5, h6, h7⟩ := h.ex
  obtain ⟨⟨na, nc, rfl⟩, ⟨ra, rc, rfl⟩, ⟨aa, ac, rfl⟩⟩ := h3.shape
  exact ⟨na, nc, ra, rc, aa, ac, h1.cell 8, h1.cell 9, h1.cell 10, h1.cell 11, h1.cell 12, h1.cell 13, h1.cell 14, h1.cell 15, h1.cell 16, h3.mono (fun y hy => ⟨(h7 y hy).1, (h7 y hy).2⟩)⟩
theorem MG.free (h : MG w m lx A r S sr hz H) (i : Nat) : w.frozen? ⟨m, i, none⟩ = false := by
  obtain ⟨nv, rv, av, nv', rv', av', b, hv, Q, O, h1, _⟩ := h.ex
  exact h1.free i
/-- Eight cells turned. -/
def put8 (w : World) (m o : Nat) (nv rv av : Value) (A : GA) (r : Int) : World := (((((((w.setCell ⟨m, o, none⟩ nv).setCell ⟨m, o + 1, none⟩ (.int .i64 (A.nx : Int))).setCell ⟨m, o + 2, none⟩ rv).setCell ⟨m, o + 3, none⟩ (.string A.hn)).setCell ⟨m, o + 4, none⟩ (.int .i64 (A.hs : Int))).setCell ⟨m, o + 5, none⟩ (.int .i64 (A.hm : Int))).setCell ⟨m, o + 6, none⟩ av).setCell ⟨m, o + 7, none⟩ (.int .i64 r)
theorem put8_has {c : Array Value} {T : TypeId} (h : Has w m c T) (o : Nat) (nv rv av : Value) (A : GA) (r : Int) : Has (put8 w m o nv rv av A r) m ((((((((c.setIfInBounds o nv).setIfInBounds (o + 1) (.int .i64 (A.nx : Int))).setIfInBounds (o + 2) rv).setIfInBounds (o + 3) (.string A.hn)).setIfInBounds (o + 4) (.int .i64 (A.hs : Int))).setIfInBounds (o + 5) (.int .i64 (A.hm : Int))).setIfInBounds (o + 6) av).setIfInBounds (o + 7) (.int .i64 r)) T :=
  (((((((h.setCell o nv).setCell (o + 1) _).setCell (o + 2) _).setCell (o + 3) _).setCell (o + 4) _).setCell (o + 5) _).setCell (o + 6) _).setCell (o + 7) _
theorem put8_only (w : World) (m o : Nat) (nv rv av : Value) (A : GA) (r : Int) : Only (fun y => y = m) w (put8 w m o nv rv av A r) :=
  ((((((((Only.refl (fun y => y = m) w).setCell (fun _ => rfl) _).setCell (fun _ => rfl) _).setCell (fun _ => rfl) _).setCell (fun _ => rfl) _).setCell (fun _ => rfl) _).setCell (fun _ => rfl) _).setCell (fun _ => rfl) _).setCell (fun _ => rfl) _
theorem gm_put0 (nv0 rv0 av0 nv1 rv1 av1 nv rv av hv : Value) (A S X : GA) (r sr x : Int) (lx : Bool) (b : Bs) : (((((((((gmC nv0 rv0 av0 A r nv1 rv1 av1 S sr lx b hv).setIfInBounds 0 nv).setIfInBounds (0 + 1) (.int .i64 (X.nx : Int))).setIfInBounds (0 + 2) rv).setIfInBounds (0 + 3) (.string X.hn)).setIfInBounds (0 + 4) (.int .i64 (X.hs : Int))).setIfInBounds (0 + 5) (.int .i64 (X.hm : Int))).setIfInBounds (0 + 6) av).setIfInBounds (0 + 7) (.int .i64 x)) = gmC nv rv av X x nv1 rv1 av1 S sr lx b hv := by
  unfold gmC; simp
theorem gm_put8 (nv0 rv0 av0 nv1 rv1 av1 nv rv av hv : Value) (A S X : GA) (r sr x : Int) (lx : Bool) (b : Bs) : (((((((((gmC nv0 rv0 av0 A r nv1 rv1 av1 S sr lx b hv).setIfInBounds 8 nv).setIfInBounds (8 + 1) (.int .i64 (X.nx : Int))).setIfInBounds (8 + 2) rv).setIfInBounds (8 + 3) (.string X.hn)).setIfInBounds (8 + 4) (.int .i64 (X.hs : Int))).setIfInBounds (8 + 5) (.int .i64 (X.hm : Int))).setIfInBounds (8 + 6) av).setIfInBounds (8 + 7) (.int .i64 x)) = gmC nv0 rv0 av0 A r nv rv av X x lx b hv := by
  unfold gmC; simp
theorem gm_put17 (nv0 rv0 av0 nv1 rv1 av1 nv rv av hv : Value) (A S X : GA) (r sr x : Int) (lx : Bool) (b : Bs) : (((((((((gmC nv0 rv0 av0 A r nv1 rv1 av1 S sr lx b hv).setIfInBounds 17 nv).setIfInBounds (17 + 1) (.int .i64 (X.nx : Int))).setIfInBounds (17 + 2) rv).setIfInBounds (17 + 3) (.string X.hn)).setIfInBounds (17 + 4) (.int .i64 (X.hs : Int))).setIfInBounds (17 + 5) (.int .i64 (X.hm : Int))).setIfInBounds (17 + 6) av).setIfInBounds (17 + 7) (.int .i64 x)) = gmC nv0 rv0 av0 A r nv1 rv1 av1 S sr lx ⟨nv, .int .i64 (X.nx : Int), rv, .string X.hn, .int .i64 (X.hs : Int), .int .i64 (X.hm : Int), av, .int .i64 x⟩ hv := by
  unfold gmC; simp
/-- The running state becomes A'. -/
theorem MG.putCur {A' : GA} {r' : Int} (h : MG w m lx A r S sr hz H) (hq : Only (fun _ => False) w w') (hv : StV w' nv rv av A' (fun y => w.heap.size ≤ y)) : MG (put8 w' m 0 nv rv av A' r') m lx A' r' S sr hz (Ext H w w') := by
  obtain ⟨nv0, rv0, av0, nv', rv', av', b, hv0, Q, O, h1, h2, h3, h4, h5, h6, h7⟩ := h.ex
  have hl := hv.lt
  have ho := put8_only w' m 0 nv rv av A' r'
  have hml := h.lt
  refine ⟨⟨nv, rv, av, nv', rv', av', b, hv0, fun y => w.heap.size ≤ y ∧ y < w'.heap.size, O, gm_put0 nv0 rv0 av0 nv' rv' av' nv rv av hv0 A S A' r sr r' lx b ▸ put8_has (h1.keep hq (fun h => h)) 0 nv rv av A' r', hl.keep ho (fun y hy e => by omega), (h3.quiet hq).keep ho (fun y hy => (h7 y hy).2), h4, h5, fun k hk => ⟨fun hO => ?_, .inr hk, by omega⟩, fun k hk => ⟨.inl (h7 k hk).1, (h7 k hk).2⟩⟩, .inl h.hm, fun k hk => ?_⟩
  · have := h.inn k (h7 k hO).1; omega
  · have e := ho.size
    have e2 := hq.size
    rcases hk with hk | hk
    · have := h.inn k hk; omega
    · omega
/-- The saved state becomes S'. -/
theorem MG.putSav {S' : GA} {sr' : Int} (h : MG w m lx A r S sr hz H) (hq : Only (fun _ => False) w w') (hv : StV w' nv rv av S' (fun y => w.heap.size ≤ y)) : MG (put8 w' m 8 nv rv av S' sr') m lx A r S' sr' hz (Ext H w w') := by
  obtain ⟨nv0, rv0, av0, nv', rv', av', b, hv0, Q, O, h1, h2, h3, h4, h5, h6, h7⟩ := h.ex
  have hl := hv.lt
  have ho := put8_only w' m 8 nv rv av S' sr'
  have hml := h.lt
  refine ⟨⟨nv0, rv0, av0, nv, rv, av, b, hv0, Q, fun y => w.heap.size ≤ y ∧ y < w'.heap.size, gm_put8 nv0 rv0 av0 nv' rv' av' nv rv av hv0 A S S' r sr sr' lx b ▸ put8_has (h1.keep hq (fun h => h)) 8 nv rv av S' sr', (h2.quiet hq).keep ho (fun y hy => (h6 y hy).2.2), hl.keep ho (fun y hy e => by omega), h4, h5, fun k hk => ⟨fun hO => ?_, .inl (h6 k hk).2.1, (h6 k hk).2.2⟩, fun k hk => ⟨.inr hk, by omega⟩⟩, .inl h.hm, fun k hk => ?_⟩
  · have := h.inn k (h6 k hk).2.1; omega
  · have e := ho.size
    have e2 := hq.size
    rcases hk with hk | hk
    · have := h.inn k hk; omega
    · omega
/-- The base is laid anew. -/
theorem MG.putBase {S' : GA} {sr' : Int} (h : MG w m lx A r S sr hz H) : MG (put8 w m 17 nv rv av S' sr') m lx A r S sr hz H := by
  obtain ⟨nv0, rv0, av0, nv', rv', av', b, hv0, Q, O, h1, h2, h3, h4, h5, h6, h7⟩ := h.ex
  have ho := put8_only w m 17 nv rv av S' sr'
  exact ⟨⟨nv0, rv0, av0, nv', rv', av', ⟨nv, _, rv, _, _, _, av, _⟩, hv0, Q, O, gm_put17 nv0 rv0 av0 nv' rv' av' nv rv av hv0 A S S' r sr sr' lx b ▸ put8_has h1 17 nv rv av S' sr', h2.keep ho (fun y hy => (h6 y hy).2.2), h3.keep ho (fun y hy => (h7 y hy).2), h4, h5, h6, h7⟩, h.hm, fun k hk => Nat.lt_of_lt_of_le (h.inn k hk) ho.size⟩
/-- One cell turned, the lists as they stood. -/
theorem MG.room (h : MG w m lx A r S sr hz H) (r' : Int) : MG (w.setCell ⟨m, 7, none⟩ (.int .i64 r')) m lx A r' S sr hz H ∧ Only (fun y => y = m) w (w.setCell ⟨m, 7, none⟩ (.int .i64 r')) := by
  obtain ⟨nv0, rv0, av0, nv', rv', av', b, hv0, Q, O, h1, h2, h3, h4, h5, h6, h7⟩ := h.ex
  have ho : Only (fun y => y = m) w (w.setCell ⟨m, 7, none⟩ (.int .i64 r')) := (Only.refl (fun y => y = m) w).setCell (fun _ => rfl) _
  exact ⟨⟨⟨nv0, rv0, av0, nv', rv', av', b, hv0, Q, O, h1.setCell 7 _, h2.keep ho (fun y hy => (h6 y hy).2.2), h3.keep ho (fun y hy => (h7 y hy).2), h4, h5, h6, h7⟩, h.hm, fun k hk => Nat.lt_of_lt_of_le (h.inn k hk) ho.size⟩, ho⟩
theorem MG.lax (h : MG w m lx A r S sr hz H) : MG (w.setCell ⟨m, 16, none⟩ (.bool true)) m true A r S sr hz H ∧ Only (fun y => y = m) w (w.setCell ⟨m, 16, none⟩ (.bool true)) := by
  obtain ⟨nv0, rv0, av0, nv', rv', av', b, hv0, Q, O, h1, h2, h3, h4, h5, h6, h7⟩ := h.ex
  have ho : Only (fun y => y = m) w (w.setCell ⟨m, 16, none⟩ (.bool true)) := (Only.refl (fun y => y = m) w).setCell (fun _ => rfl) _
  exact ⟨⟨⟨nv0, rv0, av0, nv', rv', av', b, hv0, Q, O, h1.setCell 16 _, h2.keep ho (fun y hy => (h6 y hy).2.2), h3.keep ho (fun y hy => (h7 y hy).2), h4, h5, h6, h7⟩, h.hm, fun k hk => Nat.lt_of_lt_of_le (h.inn k hk) ho.size⟩, ho⟩
theorem MG.hist (h : MG w m lx A r S sr hz H) (a : Option Addr) (n c : Nat) : MG (w.setCell ⟨m, 25, none⟩ (.slice a n c)) m lx A r S sr false H ∧ Only (fun y => y = m) w (w.setCell ⟨m, 25, none⟩ (.slice a n c)) := by
  obtain ⟨nv0, rv0, av0, nv', rv', av', b, hv0, Q, O, h1, h2, h3, h4, h5, h6, h7⟩ := h.ex
  have ho : Only (fun y => y = m) w (w.setCell ⟨m, 25, none⟩ (.slice a n c)) := (Only.refl (fun y => y = m) w).setCell (fun _ => rfl) _
  exact ⟨⟨⟨nv0, rv0, av0, nv', rv', av', b, _, Q, O, h1.setCell 25 _, h2.keep ho (fun y hy => (h6 y hy).2.2), h3.keep ho (fun y hy => (h7 y hy).2), (fun e => by cases e), ⟨a, n, c, rfl⟩, h6, h7⟩, h.hm, fun k hk => Nat.lt_of_lt_of_le (h.inn k hk) ho.size⟩, ho⟩
theorem MG.mark (h : MG w m lx A r S sr hz H) : MG (w.setCell ⟨m, 25, none⟩ (.slice none 0 0)) m lx A r S sr true H ∧ Only (fun y => y = m) w (w.setCell ⟨m, 25, none⟩ (.slice none 0 0)) := by
  obtain ⟨nv0, rv0, av0, nv', rv', av', b, hv0, Q, O, h1, h2, h3, h4, h5, h6, h7⟩ := h.ex
  have ho : Only (fun y => y = m) w (w.setCell ⟨m, 25, none⟩ (.slice none 0 0)) := (Only.refl (fun y => y = m) w).setCell (fun _ => rfl) _
  exact ⟨⟨⟨nv0, rv0, av0, nv', rv', av', b, _, Q, O, h1.setCell 25 _, h2.keep ho (fun y hy => (h6 y hy).2.2), h3.keep ho (fun y hy => (h7 y hy).2), (fun _ => rfl), ⟨none, 0, 0, rfl⟩, h6, h7⟩, h.hm, fun k hk => Nat.lt_of_lt_of_le (h.inn k hk) ho.size⟩, ho⟩
end
end Go.Proofs.Qxb6500417aGreat
