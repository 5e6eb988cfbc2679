/-
  OWN WORK. TXN's MODEL: api.Multi: Clone (written by tools/gen_xm7.py).
-/
import Derived.Test.Qxb6500412aGreatXM6
namespace Go.Proofs.Qxb6500412aGreat
open Go.RowKit Go.PlainAid
set_option linter.unusedSimpArgs false
set_option linter.unusedVariables false

def Mm.z : Mm := ⟨fun _ => false, fun _ _ => 0, fun _ => .slice none 0 0, fun _ => []⟩
theorem mmC_z : tabV 21 (mmC Mm.z) = #[.slice none 0 0, .bool false, .bool false, .bool false, .bool false, .int .i64 0, .int .i64 0, .int .i64 0, .int .i64 0, .int .i64 0, .int .i64 0, .int .i64 0, .int .i64 0, .int .i64 0, .int .i64 0, .int .i64 0, .int .i64 0, .slice none 0 0, .slice none 0 0, .slice none 0 0, .slice none 0 0] := rfl
theorem MMt.new (w : World) : MMt (w.alloc (.cells #[.slice none 0 0, .bool false, .bool false, .bool false, .bool false, .int .i64 0, .int .i64 0, .int .i64 0, .int .i64 0, .int .i64 0, .int .i64 0, .int .i64 0, .int .i64 0, .int .i64 0, .int .i64 0, .int .i64 0, .int .i64 0, .slice none 0 0, .slice none 0 0, .slice none 0 0, .slice none 0 0] 113)) w.heap.size Mm.z := by
  refine ⟨by rw [mmC_z]; exact Has.new w _ _, fun j hj => ML.nil _, fun i j _ _ _ b h => ?_⟩
  rcases h with h | ⟨e, he, _⟩
  · cases h
  · cases he
/-- The clone so far: the databases below j are copied. -/
structure McI (w : World) (Z : Mm) (n j : Nat) (wr : World) (Zr : Mm) : Prop where
  at_ : MMt wr n Zr
  act : ∀ s, s < 4 → Zr.act s = Z.act s
  lk : ∀ s i, s < 4 → i < 3 → Zr.lk s i = Z.lk s i
  db : ∀ i, i < 5 → i < j → Zr.db i = Z.db i
  nw : ∀ b, Zr.A n b → w.heap.size ≤ b
  on : Only (fun _ => False) w wr
section
variable {w w' wr : World} {k n : Nat} {Z Zr : Mm} {M : Mu} {H : Nat → Prop}
theorem MmS.sim {Z' : Mm} (h : MmS Z M) (ha : ∀ s, s < 4 → Z'.act s = Z.act s) (hk : ∀ s i, s < 4 → i < 3 → Z'.lk s i = Z.lk s i) (hd : ∀ j, j < 5 → Z'.db j = Z.db j) : MmS Z' M :=
  ⟨by rw [hd 0 (by omega)]; exact h.com, fun j hj => by rw [hd j hj]; exact h.ok j hj, fun s hs => by rw [ha s hs]; exact h.act s hs, fun s i t hs hi => by rw [hk s i hs (h.i3 hi)]; exact h.lk s i t hs hi, h.lk0, fun s hs c => by rw [hd (1 + s) (by omega)]; exact h.nms s hs c, fun s i hs hi c => by rw [hk s i hs hi]; exact h.idle s i hs hi c, fun s hs => by rw [hd (1 + s) (by omega)]; exact h.see s hs⟩
/-- The next database is copied. -/
theorem McI.step {j o g m : Nat} {l' : List GE} {w3 : World} (I : McI w Z n j wr Zr) (hj : j < 5) (ho : offM j = o) (hM : ML w3 (.slice (some ⟨g, 0, none⟩) m m) l') (ht : l'.map (·.t) = Z.db j) (hf : ∀ b, MLm (.slice (some ⟨g, 0, none⟩) m m) l' b ∨ MLi l' b → wr.heap.size ≤ b) (o3 : Only (fun _ => False) wr w3) : McI w Z n (j + 1) (w3.setCell ⟨n, o, none⟩ (.slice (some ⟨g, 0, none⟩) m m)) (Zr.setV j (.slice (some ⟨g, 0, none⟩) m m) l') := by
  have nl := I.at_.has.lt
  have h3 := I.at_.quiet o3
  have o4 : Only (fun b => b = n) w3 (w3.setCell ⟨n, o, none⟩ (.slice (some ⟨g, 0, none⟩) m m)) := only1 _ _
  have o5 : Only (fun b => b = n) wr (w3.setCell ⟨n, o, none⟩ (.slice (some ⟨g, 0, none⟩) m m)) := (o3.mono (fun _ _ e => e.elim)).trans o4 (fun _ _ e => e)
  have hn := I.nw n (.inl (.inl rfl))
  have z1 := I.on.size
  refine ⟨I.at_.setV hj o5 (fun b hb => .inl hb) (by rw [ho]; exact h3.has.setCell _ _) (hM.keep o4 (fun b hb e => by have := hf b (.inl hb); have e' : b = n := e; omega) (fun b hb e => by have := hf b (.inr hb); have e' : b = n := e; omega)) (fun b hb => .inr (hf b (.inl hb))), I.act, I.lk, fun i hi hij => ?_, fun b hb => ?_, I.on.fresh o5 hn⟩
  · rw [Mm.setV_db]
    by_cases c : i = j
    · rw [if_pos c, ht, c]
    · rw [if_neg c]; exact I.db i hi (by omega)
  · rcases Mm.setV_A hb with c | c
    · exact I.nw b c
    · have := hf b c; omega
theorem McI.done (I : McI w Z n 5 wr Zr) (hS : MmS Z M) : ∃ H', MX wr n M H' ∧ ∀ b, H' b → w.heap.size ≤ b :=
  ⟨fun b => w.heap.size ≤ b ∧ b < wr.heap.size, ⟨⟨Zr, I.at_, hS.sim I.act I.lk (fun j hj => I.db j hj hj), fun b hb => ⟨I.nw b hb, I.at_.lt b hb⟩⟩, fun b hb => hb.2⟩, fun b hb => hb.1⟩
theorem only4 {b : World} {n : Nat} (a0 : Bool) (a1 : Bool) (a2 : Bool) (a3 : Bool) : Only (fun x => x = n) b ((((b.setCell ⟨n, 1, none⟩ (.bool a0)).setCell ⟨n, 2, none⟩ (.bool a1)).setCell ⟨n, 3, none⟩ (.bool a2)).setCell ⟨n, 4, none⟩ (.bool a3)) := by
  iterate 4 (refine Only.trans ?_ (only1 (p := n) _ _) (fun _ _ h => h))
  exact Only.refl _ _
theorem only12 {b : World} {n : Nat} (l00 : Int) (l01 : Int) (l02 : Int) (l10 : Int) (l11 : Int) (l12 : Int) (l20 : Int) (l21 : Int) (l22 : Int) (l30 : Int) (l31 : Int) (l32 : Int) : Only (fun x => x = n) b ((((((((((((b.setCell ⟨n, 5, none⟩ (.int .i64 l00)).setCell ⟨n, 6, none⟩ (.int .i64 l01)).setCell ⟨n, 7, none⟩ (.int .i64 l02)).setCell ⟨n, 8, none⟩ (.int .i64 l10)).setCell ⟨n, 9, none⟩ (.int .i64 l11)).setCell ⟨n, 10, none⟩ (.int .i64 l12)).setCell ⟨n, 11, none⟩ (.int .i64 l20)).setCell ⟨n, 12, none⟩ (.int .i64 l21)).setCell ⟨n, 13, none⟩ (.int .i64 l22)).setCell ⟨n, 14, none⟩ (.int .i64 l30)).setCell ⟨n, 15, none⟩ (.int .i64 l31)).setCell ⟨n, 16, none⟩ (.int .i64 l32)) := by
  iterate 12 (refine Only.trans ?_ (only1 (p := n) _ _) (fun _ _ h => h))
  exact Only.refl _ _
theorem MMt.act4 {b : World} {Z0 : Mm} (m0 : MMt b n Z0) (a0 : Bool) (a1 : Bool) (a2 : Bool) (a3 : Bool) : MMt ((((b.setCell ⟨n, 1, none⟩ (.bool a0)).setCell ⟨n, 2, none⟩ (.bool a1)).setCell ⟨n, 3, none⟩ (.bool a2)).setCell ⟨n, 4, none⟩ (.bool a3)) n ((((Z0.setA 0 a0).setA 1 a1).setA 2 a2).setA 3 a3) := ((((m0.setA (s := 0) (by omega) a0).setA (s := 1) (by omega) a1).setA (s := 2) (by omega) a2).setA (s := 3) (by omega) a3)
theorem MMt.lk12 {b : World} {Z0 : Mm} (m0 : MMt b n Z0) (l00 : Int) (l01 : Int) (l02 : Int) (l10 : Int) (l11 : Int) (l12 : Int) (l20 : Int) (l21 : Int) (l22 : Int) (l30 : Int) (l31 : Int) (l32 : Int) : MMt ((((((((((((b.setCell ⟨n, 5, none⟩ (.int .i64 l00)).setCell ⟨n, 6, none⟩ (.int .i64 l01)).setCell ⟨n, 7, none⟩ (.int .i64 l02)).setCell ⟨n, 8, none⟩ (.int .i64 l10)).setCell ⟨n, 9, none⟩ (.int .i64 l11)).setCell ⟨n, 10, none⟩ (.int .i64 l12)).setCell ⟨n, 11, none⟩ (.int .i64 l20)).setCell ⟨n, 12, none⟩ (.int .i64 l21)).setCell ⟨n, 13, none⟩ (.int .i64 l22)).setCell ⟨n, 14, none⟩ (.int .i64 l30)).setCell ⟨n, 15, none⟩ (.int .i64 l31)).setCell ⟨n, 16, none⟩ (.int .i64 l32)) n ((((((((((((Z0.setK 0 0 l00).setK 0 1 l01).setK 0 2 l02).setK 1 0 l10).setK 1 1 l11).setK 1 2 l12).setK 2 0 l20).setK 2 1 l21).setK 2 2 l22).setK 3 0 l30).setK 3 1 l31).setK 3 2 l32) := ((((((((((((m0.setK (s := 0) (i := 0) (by omega) (by omega) l00).setK (s := 0) (i := 1) (by omega) (by omega) l01).setK (s := 0) (i := 2) (by omega) (by omega) l02).setK (s := 1) (i := 0) (by omega) (by omega) l10).setK (s := 1) (i := 1) (by omega) (by omega) l11).setK (s := 1) (i := 2) (by omega) (by omega) l12).setK (s := 2) (i := 0) (by omega) (by omega) l20).setK (s := 2) (i := 1) (by omega) (by omega) l21).setK (s := 2) (i := 2) (by omega) (by omega) l22).setK (s := 3) (i := 0) (by omega) (by omega) l30).setK (s := 3) (i := 1) (by omega) (by omega) l31).setK (s := 3) (i := 2) (by omega) (by omega) l32)
set_option maxRecDepth 100000 in
set_option maxHeartbeats 8000000 in
theorem xmclone_any (X : MX w k M H) : Calls Tryz.prog 64 #[.pointer (some ⟨k, 0, none⟩)] w fun e w' => ∃ n H', e = .returned (.pointer (some ⟨n, 0, none⟩)) ∧ MX w' n M H' ∧ (∀ b, H' b → w.heap.size ≤ b) ∧ Only (fun _ => False) w w' := by
  have N0 := MMt.new w
  have oo : Only (fun _ => False) w (w.alloc (.cells #[.slice none 0 0, .bool false, .bool false, .bool false, .bool false, .int .i64 0, .int .i64 0, .int .i64 0, .int .i64 0, .int .i64 0, .int .i64 0, .int .i64 0, .int .i64 0, .int .i64 0, .int .i64 0, .int .i64 0, .int .i64 0, .slice none 0 0, .slice none 0 0, .slice none 0 0, .slice none 0 0] 113)) := (Only.refl _ w).alloc _
  obtain ⟨Z, h, hS, hA⟩ := X.ex
  have h0 := h.quiet oo
  have hkn : k < w.heap.size := X.kl
  have HH := hide (And.intro h (And.intro hS (And.intro N0 (And.intro oo h0))))
  clear X h hS hA N0 oo h0
  go_enter Tryz.func64, Tryz.ntmps64
  go_upto_region 2 with fail
  generalize w.alloc (.cells #[.slice none 0 0, .bool false, .bool false, .bool false, .bool false, .int .i64 0, .int .i64 0, .int .i64 0, .int .i64 0, .int .i64 0, .int .i64 0, .int .i64 0, .int .i64 0, .int .i64 0, .int .i64 0, .int .i64 0, .int .i64 0, .slice none 0 0, .slice none 0 0, .slice none 0 0, .slice none 0 0] 113) = w0 at *
  generalize hn : w.heap.size = n at *
  have HN := hide hn
  clear hn
  have C1 := hide (mdbClone_any (dk := k) (o := 0) (unhide HH).2.2.2.2.c0 ((unhide HH).2.2.2.2.ml 0 (by omega)))
  have k0 := (unhide HH).2.2.2.2.has.lt
  have q0 := (unhide HH).2.2.1.has.lt
  go_wp2_with fail
  refine (unhide C1).mono ?_
  rintro e w1 ⟨g, m, l', rfl, hM, ht, hf, o1⟩
  clear C1 k0 q0
  have n1 := (unhide HH).2.2.1.quiet o1
  have c0 := n1.c0
  have f0 := n1.fr 0
  have nl1 := n1.has.lt
  have o4 : Only (fun b => b = n) w1 (w1.setCell ⟨n, 0, none⟩ (.slice (some ⟨g, 0, none⟩) m m)) := only1 _ _
  have o5 : Only (fun b => b = n) w0 (w1.setCell ⟨n, 0, none⟩ (.slice (some ⟨g, 0, none⟩) m m)) := (o1.mono (fun _ _ e => e.elim)).trans o4 (fun _ _ e => e)
  have nw0 := (unhide HH).2.2.1.has.lt
  have m1 : MMt (w1.setCell ⟨n, 0, none⟩ (.slice (some ⟨g, 0, none⟩) m m)) n (Mm.z.setV 0 (.slice (some ⟨g, 0, none⟩) m m) l') := (unhide HH).2.2.1.setV (j := 0) (by omega) o5 (fun b hb => .inl hb) (n1.has.setCell _ _) (hM.keep o4 (fun b hb e => by have := hf b (.inl hb); have e' : b = n := e; omega) (fun b hb e => by have := hf b (.inr hb); have e' : b = n := e; omega)) (fun b hb => .inr (hf b (.inl hb)))
  have HM1 := hide (And.intro m1 (And.intro o5 (And.intro ht hf)))
  have kd : k ≠ n := by have := unhide HN; omega
  have kl1 : k < w1.heap.size := Nat.lt_of_lt_of_le (unhide HH).2.2.2.2.has.lt o1.size
  clear hM ht hf o1 n1 o4 o5 nw0 m1
  simp [Mm.z] at c0
  go_upto_region 3 with fail
  generalize w1.setCell ⟨n, 0, none⟩ (.slice (some ⟨g, 0, none⟩) m m) = b1 at *
  clear c0 f0 nl1 kl1
  have h1 := (unhide HH).2.2.2.2.keep (unhide HM1).2.1 (fun b hb e => by have e' : b = n := e; have := (unhide HH).1.lt b hb; have := unhide HN; omega)
  have p0 : b1.cell? ⟨k, 1, none⟩ = some (.bool (Z.act 0)) := h1.cA (s := 0) (by omega)
  have p1 : b1.cell? ⟨k, 2, none⟩ = some (.bool (Z.act 1)) := h1.cA (s := 1) (by omega)
  have p2 : b1.cell? ⟨k, 3, none⟩ = some (.bool (Z.act 2)) := h1.cA (s := 2) (by omega)
  have p3 : b1.cell? ⟨k, 4, none⟩ = some (.bool (Z.act 3)) := h1.cA (s := 3) (by omega)
  have r0 : b1.cell? ⟨n, 1, none⟩ = some (.bool false) := (unhide HM1).1.cA (s := 0) (by omega)
  have f0 := (unhide HM1).1.fr 1
  have r1 : b1.cell? ⟨n, 2, none⟩ = some (.bool false) := (unhide HM1).1.cA (s := 1) (by omega)
  have f1 := (unhide HM1).1.fr 2
  have r2 : b1.cell? ⟨n, 3, none⟩ = some (.bool false) := (unhide HM1).1.cA (s := 2) (by omega)
  have f2 := (unhide HM1).1.fr 3
  have r3 : b1.cell? ⟨n, 4, none⟩ = some (.bool false) := (unhide HM1).1.cA (s := 3) (by omega)
  have f3 := (unhide HM1).1.fr 4
  obtain ⟨a0, e0⟩ : ∃ b, Z.act 0 = b := ⟨_, rfl⟩
  obtain ⟨a1, e1⟩ : ∃ b, Z.act 1 = b := ⟨_, rfl⟩
  obtain ⟨a2, e2⟩ : ∃ b, Z.act 2 = b := ⟨_, rfl⟩
  obtain ⟨a3, e3⟩ : ∃ b, Z.act 3 = b := ⟨_, rfl⟩
  rw [e0] at p0
  rw [e1] at p1
  rw [e2] at p2
  rw [e3] at p3
  have HE := hide (And.intro e0 (And.intro e1 (And.intro e2 e3)))
  have kl1 := h1.has.lt
  have nl1 := (unhide HM1).1.has.lt
  clear h1 e0 e1 e2 e3
  have m2 := MMt.act4 (unhide HM1).1 a0 a1 a2 a3
  have o2 : Only (fun b => b = n) w0 ((((b1.setCell ⟨n, 1, none⟩ (.bool a0)).setCell ⟨n, 2, none⟩ (.bool a1)).setCell ⟨n, 3, none⟩ (.bool a2)).setCell ⟨n, 4, none⟩ (.bool a3)) := (unhide HM1).2.1.trans (only4 a0 a1 a2 a3) (fun _ _ e => e)
  have HM2 := hide (And.intro m2 o2)
  clear m2 o2
  go_upto_region 4 with fail
  generalize (((b1.setCell ⟨n, 1, none⟩ (.bool a0)).setCell ⟨n, 2, none⟩ (.bool a1)).setCell ⟨n, 3, none⟩ (.bool a2)).setCell ⟨n, 4, none⟩ (.bool a3) = b2 at *
  clear p0 p1 p2 p3 r0 r1 r2 r3 f0 f1 f2 f3 kl1 nl1
  have h1 := (unhide HH).2.2.2.2.keep (unhide HM2).2 (fun b hb e => by have e' : b = n := e; have := (unhide HH).1.lt b hb; have := unhide HN; omega)
  have p00 : b2.cell? ⟨k, 5, none⟩ = some (.int .i64 (Z.lk 0 0)) := h1.cK (s := 0) (i := 0) (by omega) (by omega)
  have r00 : b2.cell? ⟨n, 5, none⟩ = some (.int .i64 0) := (unhide HM2).1.cK (s := 0) (i := 0) (by omega) (by omega)
  have f00 := (unhide HM2).1.fr 5
  obtain ⟨l00, e00⟩ : ∃ b, Z.lk 0 0 = b := ⟨_, rfl⟩
  rw [e00] at p00
  have p01 : b2.cell? ⟨k, 6, none⟩ = some (.int .i64 (Z.lk 0 1)) := h1.cK (s := 0) (i := 1) (by omega) (by omega)
  have r01 : b2.cell? ⟨n, 6, none⟩ = some (.int .i64 0) := (unhide HM2).1.cK (s := 0) (i := 1) (by omega) (by omega)
  have f01 := (unhide HM2).1.fr 6
  obtain ⟨l01, e01⟩ : ∃ b, Z.lk 0 1 = b := ⟨_, rfl⟩
  rw [e01] at p01
  have p02 : b2.cell? ⟨k, 7, none⟩ = some (.int .i64 (Z.lk 0 2)) := h1.cK (s := 0) (i := 2) (by omega) (by omega)
  have r02 : b2.cell? ⟨n, 7, none⟩ = some (.int .i64 0) := (unhide HM2).1.cK (s := 0) (i := 2) (by omega) (by omega)
  have f02 := (unhide HM2).1.fr 7
  obtain ⟨l02, e02⟩ : ∃ b, Z.lk 0 2 = b := ⟨_, rfl⟩
  rw [e02] at p02
  have p10 : b2.cell? ⟨k, 8, none⟩ = some (.int .i64 (Z.lk 1 0)) := h1.cK (s := 1) (i := 0) (by omega) (by omega)
  have r10 : b2.cell? ⟨n, 8, none⟩ = some (.int .i64 0) := (unhide HM2).1.cK (s := 1) (i := 0) (by omega) (by omega)
  have f10 := (unhide HM2).1.fr 8
  obtain ⟨l10, e10⟩ : ∃ b, Z.lk 1 0 = b := ⟨_, rfl⟩
  rw [e10] at p10
  have p11 : b2.cell? ⟨k, 9, none⟩ = some (.int .i64 (Z.lk 1 1)) := h1.cK (s := 1) (i := 1) (by omega) (by omega)
  have r11 : b2.cell? ⟨n, 9, none⟩ = some (.int .i64 0) := (unhide HM2).1.cK (s := 1) (i := 1) (by omega) (by omega)
  have f11 := (unhide HM2).1.fr 9
  obtain ⟨l11, e11⟩ : ∃ b, Z.lk 1 1 = b := ⟨_, rfl⟩
  rw [e11] at p11
  have p12 : b2.cell? ⟨k, 10, none⟩ = some (.int .i64 (Z.lk 1 2)) := h1.cK (s := 1) (i := 2) (by omega) (by omega)
  have r12 : b2.cell? ⟨n, 10, none⟩ = some (.int .i64 0) := (unhide HM2).1.cK (s := 1) (i := 2) (by omega) (by omega)
  have f12 := (unhide HM2).1.fr 10
  obtain ⟨l12, e12⟩ : ∃ b, Z.lk 1 2 = b := ⟨_, rfl⟩
  rw [e12] at p12
  have p20 : b2.cell? ⟨k, 11, none⟩ = some (.int .i64 (Z.lk 2 0)) := h1.cK (s := 2) (i := 0) (by omega) (by omega)
  have r20 : b2.cell? ⟨n, 11, none⟩ = some (.int .i64 0) := (unhide HM2).1.cK (s := 2) (i := 0) (by omega) (by omega)
  have f20 := (unhide HM2).1.fr 11
  obtain ⟨l20, e20⟩ : ∃ b, Z.lk 2 0 = b := ⟨_, rfl⟩
  rw [e20] at p20
  have p21 : b2.cell? ⟨k, 12, none⟩ = some (.int .i64 (Z.lk 2 1)) := h1.cK (s := 2) (i := 1) (by omega) (by omega)
  have r21 : b2.cell? ⟨n, 12, none⟩ = some (.int .i64 0) := (unhide HM2).1.cK (s := 2) (i := 1) (by omega) (by omega)
  have f21 := (unhide HM2).1.fr 12
  obtain ⟨l21, e21⟩ : ∃ b, Z.lk 2 1 = b := ⟨_, rfl⟩
  rw [e21] at p21
  have p22 : b2.cell? ⟨k, 13, none⟩ = some (.int .i64 (Z.lk 2 2)) := h1.cK (s := 2) (i := 2) (by omega) (by omega)
  have r22 : b2.cell? ⟨n, 13, none⟩ = some (.int .i64 0) := (unhide HM2).1.cK (s := 2) (i := 2) (by omega) (by omega)
  have f22 := (unhide HM2).1.fr 13
  obtain ⟨l22, e22⟩ : ∃ b, Z.lk 2 2 = b := ⟨_, rfl⟩
  rw [e22] at p22
  have p30 : b2.cell? ⟨k, 14, none⟩ = some (.int .i64 (Z.lk 3 0)) := h1.cK (s := 3) (i := 0) (by omega) (by omega)
  have r30 : b2.cell? ⟨n, 14, none⟩ = some (.int .i64 0) := (unhide HM2).1.cK (s := 3) (i := 0) (by omega) (by omega)
  have f30 := (unhide HM2).1.fr 14
  obtain ⟨l30, e30⟩ : ∃ b, Z.lk 3 0 = b := ⟨_, rfl⟩
  rw [e30] at p30
  have p31 : b2.cell? ⟨k, 15, none⟩ = some (.int .i64 (Z.lk 3 1)) := h1.cK (s := 3) (i := 1) (by omega) (by omega)
  have r31 : b2.cell? ⟨n, 15, none⟩ = some (.int .i64 0) := (unhide HM2).1.cK (s := 3) (i := 1) (by omega) (by omega)
  have f31 := (unhide HM2).1.fr 15
  obtain ⟨l31, e31⟩ : ∃ b, Z.lk 3 1 = b := ⟨_, rfl⟩
  rw [e31] at p31
  have p32 : b2.cell? ⟨k, 16, none⟩ = some (.int .i64 (Z.lk 3 2)) := h1.cK (s := 3) (i := 2) (by omega) (by omega)
  have r32 : b2.cell? ⟨n, 16, none⟩ = some (.int .i64 0) := (unhide HM2).1.cK (s := 3) (i := 2) (by omega) (by omega)
  have f32 := (unhide HM2).1.fr 16
  obtain ⟨l32, e32⟩ : ∃ b, Z.lk 3 2 = b := ⟨_, rfl⟩
  rw [e32] at p32
  have HE2 := hide (And.intro e00 (And.intro e01 (And.intro e02 (And.intro e10 (And.intro e11 (And.intro e12 (And.intro e20 (And.intro e21 (And.intro e22 (And.intro e30 (And.intro e31 e32)))))))))))
  have kl1 := h1.has.lt
  have nl1 := (unhide HM2).1.has.lt
  clear h1 e00 e01 e02 e10 e11 e12 e20 e21 e22 e30 e31 e32
  have m3 := MMt.lk12 (unhide HM2).1 l00 l01 l02 l10 l11 l12 l20 l21 l22 l30 l31 l32
  have o3 : Only (fun b => b = n) w0 ((((((((((((b2.setCell ⟨n, 5, none⟩ (.int .i64 l00)).setCell ⟨n, 6, none⟩ (.int .i64 l01)).setCell ⟨n, 7, none⟩ (.int .i64 l02)).setCell ⟨n, 8, none⟩ (.int .i64 l10)).setCell ⟨n, 9, none⟩ (.int .i64 l11)).setCell ⟨n, 10, none⟩ (.int .i64 l12)).setCell ⟨n, 11, none⟩ (.int .i64 l20)).setCell ⟨n, 12, none⟩ (.int .i64 l21)).setCell ⟨n, 13, none⟩ (.int .i64 l22)).setCell ⟨n, 14, none⟩ (.int .i64 l30)).setCell ⟨n, 15, none⟩ (.int .i64 l31)).setCell ⟨n, 16, none⟩ (.int .i64 l32)) := (unhide HM2).2.trans (only12 l00 l01 l02 l10 l11 l12 l20 l21 l22 l30 l31 l32) (fun _ _ e => e)
  have HM3 := hide (And.intro m3 o3)
  clear m3 o3
  go_upto_region 6 with fail
  generalize (((((((((((b2.setCell ⟨n, 5, none⟩ (.int .i64 l00)).setCell ⟨n, 6, none⟩ (.int .i64 l01)).setCell ⟨n, 7, none⟩ (.int .i64 l02)).setCell ⟨n, 8, none⟩ (.int .i64 l10)).setCell ⟨n, 9, none⟩ (.int .i64 l11)).setCell ⟨n, 10, none⟩ (.int .i64 l12)).setCell ⟨n, 11, none⟩ (.int .i64 l20)).setCell ⟨n, 12, none⟩ (.int .i64 l21)).setCell ⟨n, 13, none⟩ (.int .i64 l22)).setCell ⟨n, 14, none⟩ (.int .i64 l30)).setCell ⟨n, 15, none⟩ (.int .i64 l31)).setCell ⟨n, 16, none⟩ (.int .i64 l32) = b3 at *
  clear p00 r00 f00 p01 r01 f01 p02 r02 f02 p10 r10 f10 p11 r11 f11 p12 r12 f12 p20 r20 f20 p21 r21 f21 p22 r22 f22 p30 r30 f30 p31 r31 f31 p32 r32 f32 kl1 nl1
  have HI : Hid (∃ Zr, McI w Z n 1 b3 Zr) := hide (by
    obtain ⟨m3, o3⟩ := unhide HM3
    obtain ⟨_, _, ht, hf⟩ := unhide HM1
    obtain ⟨e0, e1, e2, e3⟩ := unhide HE
    obtain ⟨e00, e01, e02, e10, e11, e12, e20, e21, e22, e30, e31, e32⟩ := unhide HE2
    have hnw := unhide HN
    refine ⟨_, m3, fun s hs => ?_, fun s i hs hi => ?_, fun i hi h1 => ?_, fun b hb => ?_, (unhide HH).2.2.2.1.fresh o3 (by omega)⟩
    · obtain rfl | rfl | rfl | rfl : s = 0 ∨ s = 1 ∨ s = 2 ∨ s = 3 := by omega
      · exact e0.symm
      · exact e1.symm
      · exact e2.symm
      · exact e3.symm
    · obtain rfl | rfl | rfl | rfl : s = 0 ∨ s = 1 ∨ s = 2 ∨ s = 3 := by omega
      · obtain rfl | rfl | rfl : i = 0 ∨ i = 1 ∨ i = 2 := by omega
        · exact e00.symm
        · exact e01.symm
        · exact e02.symm
      · obtain rfl | rfl | rfl : i = 0 ∨ i = 1 ∨ i = 2 := by omega
        · exact e10.symm
        · exact e11.symm
        · exact e12.symm
      · obtain rfl | rfl | rfl : i = 0 ∨ i = 1 ∨ i = 2 := by omega
        · exact e20.symm
        · exact e21.symm
        · exact e22.symm
      · obtain rfl | rfl | rfl : i = 0 ∨ i = 1 ∨ i = 2 := by omega
        · exact e30.symm
        · exact e31.symm
        · exact e32.symm
    · obtain rfl : i = 0 := by omega
      exact ht
    · have hb : (Mm.z.setV 0 (.slice (some ⟨g, 0, none⟩) m m) l').A n b := hb
      rcases Mm.setV_A hb with c | c
      · rcases c with (c | ⟨_, _, c⟩) | ⟨_, _, c⟩
        · omega
        · rcases c with c | ⟨_, c, _⟩
          · cases c
          · cases c
        · obtain ⟨_, c, _⟩ := c
          cases c
      · have := hf b c
        have := (unhide HH).2.2.2.1.size
        omega)
  clear HM1 HM2 HM3 HE HE2 kd
  go_loopw [4] (fun iv wr => ∃ s : Nat, iv = .int .i64 s ∧ s ≤ 4 ∧ ∃ Zr, McI w Z n (s + 1) wr Zr) (fun iv _ => 4 - (intOf iv).toNat)
  case atStart => exact ⟨0, rfl, by omega, unhide HI⟩
  case round =>
    clear HI
    obtain ⟨s, rfl, hs4, Zr, I⟩ := hrel
    by_cases hs : s < 4
    · have a1 : decide ((s : Int) < 4) = true := decide_eq_true (by omega)
      have s4 : (s : Int) < 4 := by omega
      have hw := (unhide HH).1.quiet I.on
      have d1 : Only (fun _ => False) wr wr.drew := (Only.refl _ wr).drew
      have hd := hw.quiet d1
      have C2 : Calls Tryz.prog 120 #[.pointer (some ⟨k, 17 + s, none⟩)] wr.drew fun e w3 => ∃ (g m : Nat) (vv : Value), e = .returned (.agg #[.slice (some ⟨g, 0, none⟩) m m]) ∧ w3.cell? ⟨n, 17 + s, none⟩ = some vv ∧ w3.frozen? ⟨n, 17 + s, none⟩ = false ∧ n < w3.heap.size ∧
          Hid (∃ Zr, McI w Z n (s + 1 + 1) (w3.setCell ⟨n, 17 + s, none⟩ (.slice (some ⟨g, 0, none⟩) m m)) Zr) := by
        refine (mdbClone_any (dk := k) (o := 17 + s) (hd.cP hs) (hd.ml (1 + s) (by omega))).mono ?_
        rintro e w3 ⟨g, m, l', rfl, hM, ht, hf, o3⟩
        have o13 := d1.trans o3 (fun _ _ e => e)
        have h3 := I.at_.quiet o13
        refine ⟨g, m, _, rfl, h3.cP hs, h3.fr _, h3.has.lt, hide ⟨_, McI.step I (j := s + 1) (o := 17 + s) (by omega) (by rw [Nat.add_comm s 1]; exact offM_pos) hM ?_ (fun b hb => Nat.le_trans d1.size (hf b hb)) o13⟩⟩
        rw [Nat.add_comm s 1]
        exact ht
      have C2 := hide C2
      have cp := hw.cP hs
      have kl := hw.has.lt
      have cn := I.at_.cP hs
      have fn := I.at_.fr (17 + s)
      have nl := I.at_.has.lt
      generalize Z.v (1 + s) = vz at *
      generalize Zr.v (1 + s) = vr at *
      clear I hw d1 hd
      go_upto_region 8 with fail
      go_region_with (go_at_call 120; refine (unhide C2).mono ?_; rintro e w3 ⟨g, m, vv, rfl, c3, f3, l3, HP⟩)
      all_goals
        go_wp2_with fail
        go_roundw
        case rel => exact ⟨s + 1, by go_num, by omega, unhide HP⟩
        case measure => simp [intOf]; omega
    · obtain rfl : s = 4 := by omega
      have HP := hide (And.intro (I.done (unhide HH).2.1) I.on)
      clear I
      go_wp2_with fail
      go_ret
      obtain ⟨⟨H', X', hn'⟩, o'⟩ := unhide HP
      exact ⟨n, H', rfl, X', fun b hb => by have := hn' b hb; have := unhide HN; omega, o'⟩
end
end Go.Proofs.Qxb6500412aGreat
