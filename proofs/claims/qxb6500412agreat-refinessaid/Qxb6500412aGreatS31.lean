/-
  OWN WORK. QUERY: the engine in memory; what a sound state has; a statement and a schema in memory, apart from the engine.
-/
import Derived.Test.Qxb6500412aGreatS27
import Derived.Test.Qxb6500412aGreatS30
namespace Go.Proofs.Qxb6500412aGreat
open Go.RowKit Go.PlainAid
set_option linter.unusedSimpArgs false
set_option linter.unusedVariables false

/-- What the state of a sound manager has. -/
structure MuQ (M : Mu) : Prop where
  g : DGd M.com
  gs : ∀ s, s < 4 → DGd (M.see s)
  out : ∀ s nm, s < 4 → M.lk s nm ≠ 2 → findD (M.see s) nm = findD M.com nm
  ex : ∀ s o nm, s < 4 → o < 4 → s ≠ o → M.lk s nm = 2 → M.lk o nm = 0
  idle : ∀ s nm, s < 4 → M.act s = false → M.lk s nm = 0
  si : ∀ s, s < 4 → M.act s = false → M.see s = M.com
  rg : ∀ s nm, s < 4 → 0 ≤ M.lk s nm ∧ M.lk s nm ≤ 2
  nms : ∀ s, s < 4 → namesD (M.see s) = namesD M.com
  tb : ∀ s nm, s < 4 → (findD M.com nm = none → findD (M.see s) nm = none) ∧ ∀ t, findD M.com nm = some t → ∃ u, findD (M.see s) nm = some u ∧ u.nm = t.nm ∧ u.cols = t.cols ∧ u.pk = t.pk ∧ u.ix = t.ix
theorem RX.muQ {q : Gnd} {w : World} {g x : Nat} {M : Mu} {K : Nat → Prop} (R : RX q w g x M K) : MuQ M := by
  obtain ⟨X, S, T, hx, la, cf, ok, sh, hk⟩ := R.ex
  refine ⟨by rw [sh.com]; exact ok.db, fun o ho => by rw [sh.see o ho]; exact (ok.ws o ho).see ok.db, fun s nm hs h => ?_, fun s o nm hs ho hne h => ?_, fun s nm hs h => ?_, fun s hs h => ?_, fun s nm hs => ?_, fun s hs => ?_, fun s nm hs => ?_⟩
  · rw [sh.see s hs, sh.com, seeD_find]
    cases hf : findD (dbOf T) nm with
    | none => rfl
    | some t =>
      obtain ⟨ht, rfl⟩ := findD_mem hf
      rw [Option.map_some, seeT_none (fun c hc e => h (by rw [sh.lk s _ hs, ← e]; exact ok.wl s hs c hc))]
  · rw [sh.lk s nm hs] at h
    rw [sh.lk o nm ho]
    exact ok.lk.ex hs ho hne h
  · rw [sh.lk s nm hs]
    by_cases z : X.lk s nm = 0
    · exact z
    · have := (ok.lk.there hs z).1
      rw [← sh.act s hs, h] at this
      cases this
  · rw [sh.see s hs, ok.idle s hs (by rw [← sh.act s hs]; exact h), seeD_nil, sh.com]
  · rw [sh.lk s nm hs]; exact ok.lk.rg hs nm
  · rw [sh.see s hs, sh.com]
    unfold namesD seeD
    rw [List.map_map]
    rfl
  · rw [sh.see s hs, sh.com, seeD_find]
    cases hf : findD (dbOf T) nm with
    | none => exact ⟨fun _ => rfl, fun t h => by cases h⟩
    | some t => exact ⟨fun h => (by cases h), fun u h => by cases h; exact ⟨_, rfl, rfl, rfl, rfl, rfl⟩⟩
theorem inT_good {M : Mu} {s : Int} (h : M.inT s = 0) : gdS s ∧ s.toNat < 4 ∧ M.act s.toNat = true ∧ ((s.toNat : Nat) : Int) = s := by
  unfold Mu.inT at h
  by_cases g : gdS s
  · rw [if_pos g] at h
    have := g.1; have := g.2
    refine ⟨g, by omega, ?_, by omega⟩
    by_cases a : M.act s.toNat = true
    · exact a
    · rw [if_neg a] at h; cases h
  · rw [if_neg g] at h; cases h
theorem inT_of {M : Mu} {s : Int} (g : gdS s) (a : M.act s.toNat = true) : M.inT s = 0 := by
  unfold Mu.inT
  rw [if_pos g, if_pos a]
theorem tk_or {M : Mu} {s : Int} {nm : ByteArray} {mode : Int} (h : M.inT s = 0) (hf : findD M.com nm ≠ none) : M.tkE s nm mode = 0 ∨ M.tkE s nm mode = 21 := by
  unfold Mu.tkE
  rw [if_neg (fun c => c h), if_neg hf]
  by_cases b : M.bars s.toNat nm mode
  · exact .inr (if_pos b)
  · exact .inl (if_neg b)
/-- The engine. -/
structure QR (q : Gnd) (w : World) (k g x : Nat) (M : Mu) (K : Nat → Prop) (last : Int) : Prop where
  rx : RX q w g x M K
  has : Has w k #[.pointer (some ⟨g, 0, none⟩), .int .i64 last] 71
  off : ¬ q.A k ∧ k ≠ x ∧ ¬ K k
/-- Apart from the engine. -/
def Apa (q : Gnd) (x k : Nat) (K : Nat → Prop) (b : Nat) : Prop := ¬ q.A b ∧ b ≠ x ∧ ¬ K b ∧ b ≠ k
section
variable {q : Gnd} {w w' : World} {k g x : Nat} {M M' : Mu} {K K' : Nat → Prop} {last : Int} {b : Nat}
theorem Apa.S (h : Apa q x k K b) : ¬ q.S b := fun c => h.1 (Gnd.S_A c)
theorem Apa.SK (h : Apa q x k K b) : ¬ (q.S b ∨ K b) := fun c => c.elim h.S h.2.2.1
theorem Apa.SKk (h : Apa q x k K b) : ¬ (q.S b ∨ K b ∨ b = k) := fun c => c.elim h.S (fun c => c.elim h.2.2.1 h.2.2.2)
theorem Apa.next (h : Apa q x k K b) (hK : ∀ b, K' b → K b ∨ w.heap.size ≤ b) (hb : b < w.heap.size) : Apa q x k K' b := ⟨h.1, h.2.1, fun c => (hK b c).elim h.2.2.1 (fun c => by omega), h.2.2.2⟩
theorem QR.lts (h : QR q w k g x M K last) : (∀ b, q.A b → b < w.heap.size) ∧ x < w.heap.size ∧ (∀ b, K b → b < w.heap.size) ∧ k < w.heap.size := ⟨h.rx.Alt.1, h.rx.Alt.2, fun b hb => (h.rx.kA b hb).2.2, h.has.lt⟩
theorem QR.apn (h : QR q w k g x M K last) (hb : w.heap.size ≤ b) : Apa q x k K b := by
  obtain ⟨h1, h2, h3, h4⟩ := h.lts
  exact ⟨fun c => by have := h1 b c; omega, by omega, fun c => by have := h3 b c; omega, by omega⟩
theorem QR.keep {B : Nat → Prop} (h : QR q w k g x M K last) (ho : Only B w w') (hB : ∀ b, q.A b ∨ b = x ∨ K b ∨ b = k → ¬ B b) : QR q w' k g x M K last :=
  ⟨h.rx.keep ho (fun b hb => hB b (hb.elim .inl (fun c => .inr (c.elim .inl (fun c => .inr (.inl c)))))), h.has.keep ho (hB k (.inr (.inr (.inr rfl)))), h.off⟩
theorem QR.quiet (h : QR q w k g x M K last) (ho : Only (fun _ => False) w w') : QR q w' k g x M K last := h.keep ho (fun _ _ e => e)
/-- Only what is new turned. -/
theorem QR.late {B : Nat → Prop} (h : QR q w k g x M K last) {w0 : World} (ho : Only B w w') (hw : ∀ b, q.A b ∨ b = x ∨ K b ∨ b = k → b < w0.heap.size) (hB : ∀ b, B b → w0.heap.size ≤ b) : QR q w' k g x M K last := h.keep ho (fun b hb c => by have := hw b hb; have := hB b c; omega)
/-- The manager turned; the engine's block stands. -/
theorem QR.turn {B : Nat → Prop} (h : QR q w k g x M K last) (r : RX q w' g x M' K') (ho : Only B w w') (hB : ¬ B k) (hK : ∀ b, K' b → K b ∨ w.heap.size ≤ b) : QR q w' k g x M' K' last :=
  ⟨r, h.has.keep ho hB, h.off.1, h.off.2.1, fun c => (hK k c).elim h.off.2.2 (fun c => by have := h.has.lt; omega)⟩
theorem QR.kSK (h : QR q w k g x M K last) : ¬ (q.S k ∨ K k) := fun c => c.elim (fun c => h.off.1 (Gnd.S_A c)) h.off.2.2
theorem QR.setP (h : QR q w k g x M K last) (p : Int) : QR q (w.setCell ⟨k, 1, none⟩ (.int .i64 p)) k g x M K p := by
  have o : Only (fun b => b = k) w (w.setCell ⟨k, 1, none⟩ (.int .i64 p)) := only1 _ _
  refine ⟨h.rx.keep o (fun b hb e => ?_), h.has.setCell 1 _, h.off⟩
  have e' : b = k := e
  subst e'
  rcases hb with c | c | c
  · exact h.off.1 c
  · exact h.off.2.1 c
  · exact h.off.2.2 c
end
/-- A statement in memory, apart from the engine. -/
structure StM (q : Gnd) (x k : Nat) (K : Nat → Prop) (w : World) (S : Sq) (st : St) : Prop where
  l : SQL 0 w S
  o : SqOf S st
  ap : ∀ j, sqj j → ∀ b, (S.cell j).ownBlock = some b → Apa q x k K b
section
variable {q : Gnd} {w w' : World} {k x : Nat} {K K' : Nat → Prop} {S : Sq} {st : St}
theorem StM.keep {B : Nat → Prop} (h : StM q x k K w S st) (ho : Only B w w') (hB : ∀ b, b < w.heap.size → Apa q x k K b → ¬ B b) : StM q x k K w' S st := ⟨h.l.keep ho (fun j hj b hb => hB b (ownsRow_lt (h.l.own j hj) b hb) (h.ap j hj b hb)), h.o, h.ap⟩
theorem StM.quiet (h : StM q x k K w S st) (ho : Only (fun _ => False) w w') : StM q x k K w' S st := h.keep ho (fun _ _ _ e => e)
theorem StM.next (h : StM q x k K w S st) (hK : ∀ b, K' b → K b ∨ w.heap.size ≤ b) : StM q x k K' w S st := ⟨h.l, h.o, fun j hj b hb => (h.ap j hj b hb).next hK (ownsRow_lt (h.l.own j hj) b hb)⟩
/-- The five lists, as a walk wants them. -/
theorem StM.cells_ (h : StM q x k K w S st) : ∃ a2 c2 a4 c4 a6 c6 a7 c7 a8 c8, tabV 13 S.cell = #[.int .i64 st.kind, .string st.table, .slice a2 st.defs.length c2, .int .i64 st.pk, .slice a4 st.lits.length c4, .bool st.star, .slice a6 st.list.length c6, .slice a7 st.sets.length c7, .slice a8 st.wh.length c8, .string st.order, .bool st.desc, .bool st.hasL, .int .i64 st.lim] ∧
    OwnC w (.slice a2 st.defs.length c2) st.defs ∧ OwnV w (.slice a4 st.lits.length c4) st.lits ∧ w.ownsRow 0 9 1 (.slice a6 st.list.length c6) st.list.length (st.list.map Value.string) ∧ OwnM w (.slice a7 st.sets.length c7) st.sets ∧ OwnM w (.slice a8 st.wh.length c8) st.wh ∧
    (∀ b, (Value.slice a2 st.defs.length c2).ownBlock = some b → Apa q x k K b) ∧ (∀ b, (Value.slice a4 st.lits.length c4).ownBlock = some b → Apa q x k K b) ∧ (∀ b, (Value.slice a6 st.list.length c6).ownBlock = some b → Apa q x k K b) ∧ (∀ b, (Value.slice a7 st.sets.length c7).ownBlock = some b → Apa q x k K b) ∧ (∀ b, (Value.slice a8 st.wh.length c8).ownBlock = some b → Apa q x k K b) := by
  have j2 : sqj 2 := by unfold sqj; omega
  have j4 : sqj 4 := by unfold sqj; omega
  have j6 : sqj 6 := by unfold sqj; omega
  have j7 : sqj 7 := by unfold sqj; omega
  have j8 : sqj 8 := by unfold sqj; omega
  have x2 := h.l.own 2 j2
  have x4 := h.l.own 4 j4
  have x6 := h.l.own 6 j6
  have x7 := h.l.own 7 j7
  have x8 := h.l.own 8 j8
  obtain ⟨a2, c2, e2⟩ := ownsRow_shape x2
  obtain ⟨a4, c4, e4⟩ := ownsRow_shape x4
  obtain ⟨a6, c6, e6⟩ := ownsRow_shape x6
  obtain ⟨a7, c7, e7⟩ := ownsRow_shape x7
  obtain ⟨a8, c8, e8⟩ := ownsRow_shape x8
  rw [h.o.x2.2] at e2
  rw [h.o.x4.2] at e4
  rw [h.o.x6.2] at e6
  rw [h.o.x7.2] at e7
  rw [h.o.x8.2] at e8
  have p2 := h.ap 2 j2
  have p4 := h.ap 4 j4
  have p6 := h.ap 6 j6
  have p7 := h.ap 7 j7
  have p8 := h.ap 8 j8
  rw [e2] at x2 p2
  rw [e4] at x4 p4
  rw [e6] at x6 p6
  rw [e7] at x7 p7
  rw [e8] at x8 p8
  rw [h.o.x2.1, h.o.x2.2] at x2
  rw [h.o.x4.1, h.o.x4.2] at x4
  rw [h.o.x6.1, h.o.x6.2] at x6
  rw [h.o.x7.1, h.o.x7.2] at x7
  rw [h.o.x8.1, h.o.x8.2] at x8
  refine ⟨a2, c2, a4, c4, a6, c6, a7, c7, a8, c8, ?_, x2, x4, x6, x7, x8, p2, p4, p6, p7, p8⟩
  show #[S.cell 0, S.cell 1, S.cell 2, S.cell 3, S.cell 4, S.cell 5, S.cell 6, S.cell 7, S.cell 8, S.cell 9, S.cell 10, S.cell 11, S.cell 12] = _
  rw [h.o.k0, h.o.k1, e2, h.o.k3, e4, h.o.k5, e6, e7, e8, h.o.k9, h.o.k10, h.o.k11, h.o.k12]
end
/-- A schema as shown. -/
structure Scq where
  nm : ByteArray
  cols : List Cl
  pk : Int
  ix : Int
  z : Int
def scqD (D : Db) (nm : ByteArray) : Scq := match findD D nm with
  | none => ⟨⟨#[]⟩, [], 0, -1, 10⟩
  | some t => ⟨t.nm, t.cols, (t.pk : Int), ixI t.ix, 0⟩
section
variable {q : Gnd} {w w' : World} {g x : Nat} {M : Mu} {K : Nat → Prop}
/-- What the real SchemaOf answers. -/
theorem rschemaQ_any (R : RX q w g x M K) (nm : ByteArray) : Calls Tryz.prog 81 #[.pointer (some ⟨g, 0, none⟩), .string nm] w fun e w' => RX q w' g x M K ∧ Only q.S w w' ∧ ∃ ca cn cc, e = .returned (.tuple #[.agg #[.string (scqD M.com nm).nm, .slice ca cn cc, .int .i64 (scqD M.com nm).pk, .int .i64 (scqD M.com nm).ix], .int .i64 (scqD M.com nm).z]) ∧ OwnC w' (.slice ca cn cc) (scqD M.com nm).cols ∧ Newer w (.slice ca cn cc) ∧ (scqD M.com nm).cols.length ≤ 3 :=
  (rschemaOf_any R nm).mono (by
    rintro e w1 ⟨r, ho, h⟩
    refine ⟨r, ho, ?_⟩
    unfold scqD
    rcases h with ⟨hf, he⟩ | ⟨u, cv, hf, he, hc, hn⟩
    · rw [hf]
      exact ⟨none, 0, 0, he, World.ownsRow_nil _ _ _ _, (fun k h => by cases h), by simp⟩
    · rw [hf]
      obtain ⟨ca, cc, rfl⟩ := hc.shape
      exact ⟨ca, _, cc, he, hc, hn, (R.muQ.g.tb u (findD_mem hf).1).n3⟩)
end
end Go.Proofs.Qxb6500412aGreat
