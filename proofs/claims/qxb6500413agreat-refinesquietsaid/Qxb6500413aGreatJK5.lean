/-
  OWN WORK. THE TABLE LAW: the ghost through a recovery.
-/
import Derived.Test.Qxb6500413aGreatJK4
namespace Go.Proofs.Qxb6500413aGreat
open Go.RowKit Go.PlainAid
set_option linter.unusedSimpArgs false
set_option linter.unusedVariables false

/-- The ghost and Was, elder than N. -/
structure TG (lo N : Nat) (w : World) (kb g : Nat) (cv mv wv : Value) (cl ml wl : List GE) (op : Bool) : Prop where
  gh : GH w g cv cl mv ml op
  wg : GL w wv wl
  wc : ∀ k, GLm cv cl k → ¬ GLm wv wl k
  bg : g < N ∧ lo ≤ g ∧ g ≠ kb
  bc : ∀ k, GLa cv cl k → k < N ∧ lo ≤ k ∧ k ≠ kb
  bm : ∀ k, GLa mv ml k → k < N ∧ lo ≤ k ∧ k ≠ kb
  bw : ∀ k, GLa wv wl k → k < N ∧ lo ≤ k ∧ k ≠ kb
section
variable {lo N : Nat} {w w' : World} {kb : Nat} {q : Gnd} {x g : Nat} {op : Bool} {S C : Vu} {T TC : List (Tb × Hd)} {cv mv wv : Value} {cl ml wl : List GE} {DW : Db}
theorem TG.keep {B : Nat → Prop} (h : TG lo N w kb g cv mv wv cl ml wl op) (ho : Only B w w') (hB : ∀ k, k < N → k ≠ kb → ¬ B k) : TG lo N w' kb g cv mv wv cl ml wl op :=
  ⟨h.gh.keep ho (hB g h.bg.1 h.bg.2.2) (fun k hk => hB k (h.bc k hk).1 (h.bc k hk).2.2) (fun k hk => hB k (h.bm k hk).1 (h.bm k hk).2.2), h.wg.keep ho (fun k hk => hB k (h.bw k (.inl hk)).1 (h.bw k (.inl hk)).2.2) (fun k hk => hB k (h.bw k (.inr hk)).1 (h.bw k (.inr hk)).2.2), h.wc, h.bg, h.bc, h.bm, h.bw⟩
theorem TW.tg (K : TW lo w kb q x g op S C T TC cv mv cl ml wv wl DW) : TG lo w.heap.size w kb g cv mv wv cl ml wl op := by
  have ne : ∀ {v : Value} {l : List GE}, GL w v l → ∀ k, GLa v l k → k ≠ kb := fun G k hk => G.neT K.bx (by decide) (by decide) (by decide) (by decide) k hk
  refine ⟨K.j.gh, K.wg, K.wc, ⟨K.j.gh.has.lt, K.j.sg.2.2, fun e => ?_⟩, fun k hk => ⟨K.j.gh.cur.lt k hk, (K.j.sc k hk).2.2, ne K.j.gh.cur k hk⟩, fun k hk => ⟨K.j.gh.com.lt k hk, (K.j.sm k hk).2.2, ne K.j.gh.com k hk⟩, fun k hk => ⟨K.wg.lt k hk, (K.wq k hk).2.2.2, ne K.wg k hk⟩⟩
  have h1 := K.bx
  rw [← e] at h1
  exact absurd (h1.inj K.j.gh.has).2 (by decide)
/-- Where a cut falls. -/
theorem TW.pick (K : TW lo w kb q x g op S C T TC cv mv cl ml wv wl DW) (a : Int) : ∃ X D, X.length = 80 ∧ Shows (recov (replay q.base (q.recs.take a.toNat))) X ∧ ComD X D ∧ (D = DW ∨ D = dbOf TC) ∧ (a ≤ 0 → D = DW) ∧ ((q.recs.length : Int) ≤ a → D = dbOf TC) := by
  obtain ⟨X, lX, hX, hor, h0, h1⟩ := K.cu.pick a.toNat
  by_cases hP : ComD X DW
  · refine ⟨X, DW, lX, hX, hP, .inl rfl, fun _ => rfl, fun h => hP.uniq (h1 (by omega))⟩
  · have hQ : ComD X (dbOf TC) := hor.resolve_left hP
    exact ⟨X, dbOf TC, lX, hX, hQ, .inr rfl, fun h => absurd (h0 (by omega)) hP, fun _ => rfl⟩
/-- The ground behind a recovery. -/
theorem after_cu {q' : Gnd} {D0 X : List ByteArray} {rs : List (Nat × ByteArray)} {D : Db} (hbase : q'.base = D0) (hrecs : q'.recs = recRecs D0 ++ rs) (hc : CutX D0 (recRecs D0) (fun X => ComD X D) (fun X => ComD X D)) (ci : CutInv (replay D0 (recRecs D0)) rs X q'.com) (hblk : q'.blk = replay (replay D0 (recRecs D0)) rs) (lX : X.length = 80) (lc : q'.com.length = 80) (hX : ComD X D) (hq : ComD q'.com D) :
    CutX q'.base q'.recs (fun X => ComD X D) (fun X => ComD X D) ∧ q'.blk = replay q'.base q'.recs ∧ q'.recs.length ≤ 300 := by
  have l1 := recRecs_length D0
  have l2 := ci.short
  refine ⟨?_, ?_, ?_⟩
  · rw [hbase, hrecs]
    exact CutX.join hc ci lX lc hX hq (by omega)
  · rw [hbase, hrecs, replay_append, hblk]
  · rw [hrecs, List.length_append]
    omega
end
end Go.Proofs.Qxb6500413aGreat
