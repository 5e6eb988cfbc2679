/-
  OWN WORK. THE GRAPH LAW: sameNode, SameNode (written by tools/gen_gl3.py).
-/
import Derived.Test.Qxb6500417aGreatGL2
namespace Go.Proofs.Qxb6500417aGreat
open Go.RowKit Go.PlainAid
set_option linter.unusedSimpArgs false
set_option linter.unusedVariables false

theorem OwnI_OwnF_ne {w : World} {fv pv : Value} {fl : List Fl} {pl : List Int} (h1 : OwnF w fv fl) (h2 : OwnI w pv pl) : ∀ y, pv.ownBlock = some y → fv.ownBlock ≠ some y := fun y hy e => by
  rcases h1.2 with ⟨e1, _⟩ | ⟨g, cap, cur, e1, _, hg1, _⟩
  · rw [e1] at e; simp [Value.ownBlock] at e
  · rw [e1] at e
    simp [Value.ownBlock] at e
    subst e
    exact ownsRow_ne h2 (c := cur) (t := 78) hg1 (by decide) _ hy rfl
section
variable {w : World}
set_option maxRecDepth 100000 in
set_option maxHeartbeats 4000000 in
theorem gllow_any {fv pv fv' pv' : Value} {fl fl' : List Fl} {pl pl' : List Int} (sq sq' : Int) (ms ms' : ByteArray) (hf : OwnF w fv fl) (hp : OwnI w pv pl) (hf' : FilesIn w fv' fl') (hp' : IntsIn w pv' pl') (l1 : fl.length ≤ 1000) (l2 : fl'.length ≤ 1000) (l3 : pl.length ≤ 1000) (l4 : pl'.length ≤ 1000) :
    Calls Tryz.prog 97 #[.agg #[.int .i64 sq, fv, pv, .string ms], .agg #[.int .i64 sq', fv', pv', .string ms']] w fun e w' => ∃ b : Bool, e = .returned (.bool b) ∧ (b = true ↔ sq = sq' ∧ ms = ms' ∧ fl = fl' ∧ pl = pl') ∧ Only (fun k => fv.ownBlock = some k ∨ pv.ownBlock = some k) w w' := by
  have oA := (Only.refl (fun _ => False) w).alloc (.cells #[.int .i64 sq, fv, pv, .string ms] 128)
  have oB := (Only.refl (fun _ => False) (w.alloc (.cells #[.int .i64 sq, fv, pv, .string ms] 128))).alloc (.cells #[.int .i64 sq', fv', pv', .string ms'] 128)
  have hA := (Has.new w #[.int .i64 sq, fv, pv, .string ms] 128).keep oB (fun h => h)
  have hB := Has.new (w.alloc (.cells #[.int .i64 sq, fv, pv, .string ms] 128)) #[.int .i64 sq', fv', pv', .string ms'] 128
  have hsz : (w.alloc (.cells #[.int .i64 sq, fv, pv, .string ms] 128)).heap.size = w.heap.size + 1 := by simp
  rw [hsz] at hB
  have hO := oA.trans oB (fun _ _ h => h)
  have HA := hide hA
  have HB := hide hB
  have HO := hide hO
  have HF := hide (hf.keep hO (fun _ _ h => h))
  have HP := hide (hp.keep hO (fun _ _ h => h))
  have HF' := hide (hf'.keep hO (fun _ _ h => h))
  have HP' := hide (hp'.keep hO (fun _ _ h => h))
  have Hne := hide (OwnI_OwnF_ne hf hp)
  have Hlt := hide (fun y (hy : fv.ownBlock = some y ∨ pv.ownBlock = some y) => (show y < w.heap.size from hy.elim (fun e => ownsRow_lt hf y e) (fun e => ownsRow_lt hp y e)))
  obtain ⟨fa, fc, rfl⟩ := ownsRow_shape hf
  obtain ⟨pa, pc, rfl⟩ := ownsRow_shape hp
  obtain ⟨fa', fc', rfl⟩ := hf'.shape
  obtain ⟨pa', pc', rfl⟩ := hp'.shape
  clear oA oB hA hB hsz hO hf hp hf' hp'
  obtain ⟨b0, hb0⟩ : ∃ b : Bool, (decide (sq = sq') && decide (ms = ms')) = b := ⟨_, rfl⟩
  have Hb0 : Hid (b0 = true ↔ sq = sq' ∧ ms = ms') := hide (by rw [← hb0]; simp)
  go_enter Tryz.func97, Tryz.ntmps97
  go_upto_region 1 with fail
  generalize hW : (w.alloc (.cells #[.int .i64 sq, .slice fa fl.length fc, .slice pa pl.length pc, .string ms] 128)).alloc (.cells #[.int .i64 sq', .slice fa' fl'.length fc', .slice pa' pl'.length pc', .string ms'] 128) = W at *
  clear hW
  generalize hbb : w.heap.size = k0 at *
  have hkW : k0 + 1 < W.heap.size := (unhide HB).lt
  have x0 := (unhide HA).cell 0
  have x1 := (unhide HA).cell 1
  have x3 := (unhide HA).cell 3
  have y0 := (unhide HB).cell 0
  have y1 := (unhide HB).cell 1
  have y3 := (unhide HB).cell 3
  simp only [List.getElem?_toArray, List.getElem?_cons_zero, List.getElem?_cons_succ] at x0 x1 x3 y0 y1 y3
  have C1 := hide (glsameF_any (unhide HF).in_ (unhide HF') (by omega) (by omega))
  go_cut [5] (fun v wx => v = .bool b0 ∧ W = wx)
  case first =>
    by_cases h1 : sq = sq'
    · have e1 : (sq == sq') = true := by simp [h1]
      by_cases h2 : ms = ms'
      · have hb : b0 = true := by rw [← hb0]; simp [h1, h2]
        subst hb
        have e2 : (ms.toList == ms'.toList) = true := by rw [h2]; simp
        clear h1 h2 hb0
        go_wp2_with fail
        go_meet
        exact ⟨rfl, rfl⟩
      · have hb : b0 = false := by rw [← hb0]; simp [h2]
        subst hb
        have e2 := str_ne h2
        clear h1 h2 hb0
        go_wp2_with fail
        go_meet
        exact ⟨rfl, rfl⟩
    · have e1 : (sq == sq') = false := ne_intO h1
      have hb : b0 = false := by rw [← hb0]; simp [h1]
      subst hb
      clear h1 hb0
      go_wp2_with fail
      go_meet
      exact ⟨rfl, rfl⟩
  case rest =>
  obtain ⟨rfl, rfl⟩ := hcut
  clear x0 x3 y0 y3 hb0
  go_wp2_with fail
  refine (unhide C1).mono ?_
  rintro e w2 ⟨b1, rfl, hb1, o2⟩
  have hA2 := (unhide HA).keep o2 (fun h => h)
  have hB2 := (unhide HB).keep o2 (fun h => h)
  have x2 := hA2.cell 2
  have y2 := hB2.cell 2
  simp only [List.getElem?_toArray, List.getElem?_cons_zero, List.getElem?_cons_succ] at x2 y2
  have C2 := hide (glsameI_any ((unhide HP).keep o2 (fun _ _ h => h)).in_ ((unhide HP').keep o2 (fun _ _ h => h)) (by omega) (by omega))
  have HA2 := hide hA2
  have HF2 := hide ((unhide HF).keep o2 (fun _ _ h => h))
  have HP2 := hide ((unhide HP).keep o2 (fun _ _ h => h))
  have HO2 := hide ((unhide HO).trans o2 (fun _ _ h => h))
  have Hb1 := hide hb1
  have hs2 := o2.size
  clear C1 hb1 o2 hA2 hB2 HA HB HF HP HF' HP' HO x1 y1
  have Hfin : Hid (∀ (b2 bb : Bool) (w3 : World), (b2 = true ↔ pl = pl') → Only (fun _ => False) w2 w3 → (bb = true ↔ b0 = true ∧ b1 = true ∧ b2 = true) →
      w3.cell? ⟨k0, 1, none⟩ = some (.slice fa fl.length fc) ∧ k0 < w3.heap.size ∧ Calls Tryz.prog 87 #[.slice fa fl.length fc] w3 (fun e w4 => e = .returned (.tuple #[]) ∧ w4.cell? ⟨k0, 2, none⟩ = some (.slice pa pl.length pc) ∧ k0 < w4.heap.size ∧ Hid (Calls Tryz.prog 74 #[.slice pa pl.length pc] w4 (fun e w5 => e = .returned (.tuple #[]) ∧ Hid ((bb = true ↔ sq = sq' ∧ ms = ms' ∧ fl = fl' ∧ pl = pl') ∧ Only (fun k => (Value.slice fa fl.length fc).ownBlock = some k ∨ (Value.slice pa pl.length pc).ownBlock = some k) w w5))))) := hide (by
    intro b2 bb w3 hb2 o3 hbb3
    have hA3 := (unhide HA2).keep o3 (fun h => h)
    refine ⟨hA3.cell 1, hA3.lt, (glspoilF_any ((unhide HF2).keep o3 (fun _ _ h => h))).mono ?_⟩
    rintro e w4 ⟨rfl, o4⟩
    have hk0f : (Value.slice fa fl.length fc).ownBlock ≠ some k0 := fun e => by have := unhide Hlt k0 (.inl e); omega
    have hA4 := hA3.keep o4 hk0f
    refine ⟨rfl, hA4.cell 2, hA4.lt, hide ((glspoilI_any (((unhide HP2).keep o3 (fun _ _ h => h)).keep o4 (fun y hy e => unhide Hne y hy e))).mono ?_)⟩
    rintro e w5 ⟨rfl, o5⟩
    refine ⟨rfl, hide ⟨?_, ?_⟩⟩
    · rw [hbb3, unhide Hb0, unhide Hb1, hb2]
      exact ⟨fun e => ⟨e.1.1, e.1.2, e.2.1, e.2.2⟩, fun e => ⟨⟨e.1, e.2.1⟩, e.2.2.1, e.2.2.2⟩⟩
    · have q1 := (((unhide HO2).trans o3 (fun _ _ h => h)).mono (T := fun k => (Value.slice fa fl.length fc).ownBlock = some k ∨ (Value.slice pa pl.length pc).ownBlock = some k) (fun _ _ h => h.elim))
      exact (q1.trans o4 (fun y hy e => .inl e)).trans o5 (fun y hy e => .inr e))
  clear HA2 HF2 HP2 HO2 Hne Hlt

  cases b1 with
  | false =>
    go_wp2_with fail
    refine (unhide C2).mono ?_
    rintro e w3 ⟨b2, rfl, hb2, o3⟩
    have Hb2 := hide hb2
    have O3 := hide o3
    clear C2 hb2 o3 x2 y2
    cases b2 with
    | false =>
      obtain ⟨z1, z2, C3⟩ := unhide Hfin false false w3 (unhide Hb2) (unhide O3) ⟨fun e => Bool.noConfusion e, fun e => by simp at e⟩
      have C3 := hide C3
      clear Hfin O3 Hb2 Hb1 Hb0
      go_wp2_with fail
      refine (unhide C3).mono ?_
      rintro e w4 ⟨rfl, z3, z4, HC4⟩
      clear C3 z1 z2
      go_wp2_with fail
      refine (unhide HC4).mono ?_
      rintro e w5 ⟨rfl, HX⟩
      clear HC4 z3 z4
      go_wp2_with fail
      go_ret
      exact ⟨_, rfl, unhide HX⟩
    | true =>
      obtain ⟨z1, z2, C3⟩ := unhide Hfin true false w3 (unhide Hb2) (unhide O3) ⟨fun e => Bool.noConfusion e, fun e => by simp at e⟩
      have C3 := hide C3
      clear Hfin O3 Hb2 Hb1 Hb0
      go_wp2_with fail
      refine (unhide C3).mono ?_
      rintro e w4 ⟨rfl, z3, z4, HC4⟩
      clear C3 z1 z2
      go_wp2_with fail
      refine (unhide HC4).mono ?_
      rintro e w5 ⟨rfl, HX⟩
      clear HC4 z3 z4
      go_wp2_with fail
      go_ret
      exact ⟨_, rfl, unhide HX⟩
  | true =>
    go_wp2_with fail
    refine (unhide C2).mono ?_
    rintro e w3 ⟨b2, rfl, hb2, o3⟩
    have Hb2 := hide hb2
    have O3 := hide o3
    clear C2 hb2 o3 x2 y2
    cases b2 with
    | false =>
      obtain ⟨z1, z2, C3⟩ := unhide Hfin false false w3 (unhide Hb2) (unhide O3) ⟨fun e => Bool.noConfusion e, fun e => by simp at e⟩
      have C3 := hide C3
      clear Hfin O3 Hb2 Hb1 Hb0
      go_wp2_with fail
      refine (unhide C3).mono ?_
      rintro e w4 ⟨rfl, z3, z4, HC4⟩
      clear C3 z1 z2
      go_wp2_with fail
      refine (unhide HC4).mono ?_
      rintro e w5 ⟨rfl, HX⟩
      clear HC4 z3 z4
      go_wp2_with fail
      go_ret
      exact ⟨_, rfl, unhide HX⟩
    | true =>
      obtain ⟨z1, z2, C3⟩ := unhide Hfin true b0 w3 (unhide Hb2) (unhide O3) ⟨fun e => ⟨e, by first | trivial | rfl, by first | trivial | rfl⟩, fun e => e.1⟩
      have C3 := hide C3
      clear Hfin O3 Hb2 Hb1 Hb0
      go_wp2_with fail
      refine (unhide C3).mono ?_
      rintro e w4 ⟨rfl, z3, z4, HC4⟩
      clear C3 z1 z2
      go_wp2_with fail
      refine (unhide HC4).mono ?_
      rintro e w5 ⟨rfl, HX⟩
      clear HC4 z3 z4
      go_wp2_with fail
      go_ret
      exact ⟨_, rfl, unhide HX⟩

end
/-- What Node shows. -/
def ndA (A : GA) (q : Int) : Nd × Nat := match A.nodes.find? (fun x => decide ((x.seq : Int) = q)) with
  | some x => (x, 0)
  | none => (⟨0, [], [], ⟨#[]⟩⟩, 17)
theorem ndA_some {A : GA} (hS : NdS A.nodes) {x : Nd} {q : Int} (hx : x ∈ A.nodes) (he : (x.seq : Int) = q) : ndA A q = (x, 0) := by
  unfold ndA
  cases hf : A.nodes.find? (fun x => decide ((x.seq : Int) = q)) with
  | none =>
    have := List.find?_eq_none.1 hf x hx
    simp [he] at this
  | some y =>
    have h1 := List.mem_of_find?_eq_some hf
    have h2 := List.find?_some hf
    have h3 : (y.seq : Int) = q := of_decide_eq_true h2
    obtain ⟨i, hi⟩ := List.getElem?_of_mem hx
    obtain ⟨j, hj⟩ := List.getElem?_of_mem h1
    have := hS.uniq hi hj (by omega)
    subst this
    rw [hi] at hj
    cases hj
    rfl
theorem ndA_none {A : GA} {q : Int} (h : hasN A q = false) : ndA A q = (⟨0, [], [], ⟨#[]⟩⟩, 17) := by
  unfold ndA
  have : A.nodes.find? (fun x => decide ((x.seq : Int) = q)) = none := by
    rw [List.find?_eq_none]
    intro x hx hd
    unfold hasN at h
    have := List.any_eq_false.1 h x hx
    exact this hd
  rw [this]
theorem ndA_small {A : GA} (h : ASm A) (q : Int) : (ndA A q).1.files.length ≤ 1000 ∧ (ndA A q).1.par.length ≤ 1000 := by
  unfold ndA
  cases hf : A.nodes.find? (fun x => decide ((x.seq : Int) = q)) with
  | none => exact ⟨by simp, by simp⟩
  | some y => exact h.sml y (List.mem_of_find?_eq_some hf)
theorem NdP.one {A : GA} {q : Int} {w : World} {e : Ending} {w' : World} (hS : NdS A.nodes) (h : NdP A q w e w') : ∃ fv pv, e = .returned (.tuple #[ndV ((ndA A q).1.seq : Int) fv pv (ndA A q).1.msg, .int .i64 ((ndA A q).2 : Nat)]) ∧ NM w fv pv (ndA A q).1 w' := by
  rcases h with ⟨hn, rfl, ho⟩ | ⟨x, fv, pv, hx, he, rfl, hM⟩
  · rw [ndA_none hn]
    exact ⟨_, _, rfl, OwnF.nil w', World.ownsRow_nil _ _ _ _, by simp [Value.ownBlock], by simp [Value.ownBlock], ho⟩
  · rw [ndA_some hS hx he]
    exact ⟨fv, pv, by rw [← he]; rfl, hM⟩
theorem nd_ext {x y : Nd} (h1 : (x.seq : Int) = y.seq) (h2 : x.msg = y.msg) (h3 : x.files = y.files) (h4 : parI x = parI y) : x = y := by
  obtain ⟨a, b, c, d⟩ := x
  obtain ⟨a', b', c', d'⟩ := y
  simp only at h1 h2 h3
  have e1 : a = a' := by omega
  have e4 : c = c' := by
    unfold parI at h4
    exact (List.map_inj_right (fun u v e => by exact Int.ofNat.inj e)).1 h4
  rw [e1, h2, h3, e4]
section
variable {w : World} {g t s d : Nat} {D B : Nat → Nat} {recs : List Rec} {J : Nat → Sl} {rt : Nat} {F : Nat → Prop} {T : Gt} {S A S2 : GA} {m : Nat} {lx hz : Bool} {r sr : Int} {H : Nat → Prop}
/-- A commit in a block of its own, as an observer gave it. -/
structure NdB (w0 w : World) (k : Nat) (x : Nd) (fa : Option Addr) (fc : Nat) (pa : Option Addr) (pc : Nat) (lo : Nat) : Prop where
  has : Has w k #[.int .i64 (x.seq : Int), .slice fa x.files.length fc, .slice pa (parI x).length pc, .string x.msg] 128
  of : OwnF w (.slice fa x.files.length fc) x.files
  op : OwnI w (.slice pa (parI x).length pc) (parI x)
  bf : ∀ y, (Value.slice fa x.files.length fc).ownBlock = some y ∨ (Value.slice pa (parI x).length pc).ownBlock = some y → lo ≤ y ∧ y < k
theorem NdB.keep {w0 w w' : World} {k : Nat} {x : Nd} {fa pa : Option Addr} {fc pc lo : Nat} {P : Nat → Prop} (h : NdB w0 w k x fa fc pa pc lo) (ho : Only P w w') (hP : ∀ y, lo ≤ y → y ≤ k → ¬ P y) (hk : lo ≤ k) : NdB w0 w' k x fa fc pa pc lo :=
  ⟨h.has.keep ho (hP k hk (Nat.le_refl _)), h.of.keep ho (fun y hy => by have := h.bf y (.inl hy); exact hP y this.1 (by omega)), h.op.keep ho (fun y hy => by have := h.bf y (.inr hy); exact hP y this.1 (by omega)), h.bf⟩
/-- Ahead of its block. -/
structure NdQ (W w' : World) (x : Nd) (fa : Option Addr) (fc : Nat) (pa : Option Addr) (pc : Nat) : Prop where
  of : OwnF w' (.slice fa x.files.length fc) x.files
  op : OwnI w' (.slice pa (parI x).length pc) (parI x)
  bf : ∀ y, (Value.slice fa x.files.length fc).ownBlock = some y ∨ (Value.slice pa (parI x).length pc).ownBlock = some y → W.heap.size ≤ y ∧ y < w'.heap.size
  ho : Only (fun _ => False) W w'
theorem NM.q {W w' : World} {fv pv : Value} {x : Nd} (h : NM W fv pv x w') : ∃ fa fc pa pc, fv = .slice fa x.files.length fc ∧ pv = .slice pa (parI x).length pc ∧ NdQ W w' x fa fc pa pc := by
  obtain ⟨fa, fc, rfl⟩ := ownsRow_shape h.of
  obtain ⟨pa, pc, rfl⟩ := ownsRow_shape h.op
  exact ⟨fa, fc, pa, pc, rfl, rfl, h.of, h.op, fun y hy => hy.elim (fun e => ⟨h.bf y e, ownsRow_lt h.of y e⟩) (fun e => ⟨h.bp y e, ownsRow_lt h.op y e⟩), h.ho⟩
theorem NdQ.b {w0 W w' : World} {x : Nd} {fa pa : Option Addr} {fc pc : Nat} (h : NdQ W w' x fa fc pa pc) : NdB w0 (w'.alloc (.cells #[.int .i64 (x.seq : Int), .slice fa x.files.length fc, .slice pa (parI x).length pc, .string x.msg] 128)) w'.heap.size x fa fc pa pc W.heap.size := by
  have oA := (Only.refl (fun _ => False) w').alloc (.cells #[.int .i64 (x.seq : Int), .slice fa x.files.length fc, .slice pa (parI x).length pc, .string x.msg] 128)
  exact ⟨Has.new w' _ _, h.of.keep oA (fun _ _ h => h), h.op.keep oA (fun _ _ h => h), h.bf⟩
/-- One comparison. -/
theorem glcmp_any {w0 : World} {k k' lo lo' : Nat} {x y : Nd} {fa pa fa' pa' : Option Addr} {fc pc fc' pc' : Nat} (h : NdB w0 w k x fa fc pa pc lo) (h' : NdB w0 w k' y fa' fc' pa' pc' lo') (l1 : x.files.length ≤ 1000) (l2 : y.files.length ≤ 1000) (l3 : x.par.length ≤ 1000) (l4 : y.par.length ≤ 1000) :
    Calls Tryz.prog 97 #[.agg #[.int .i64 (x.seq : Int), .slice fa x.files.length fc, .slice pa (parI x).length pc, .string x.msg], .agg #[.int .i64 (y.seq : Int), .slice fa' y.files.length fc', .slice pa' (parI y).length pc', .string y.msg]] w fun e w' => ∃ b : Bool, e = .returned (.bool b) ∧ (b = true ↔ x = y) ∧ Only (fun z => lo ≤ z ∧ z < k) w w' := by
  refine (gllow_any (x.seq : Int) (y.seq : Int) x.msg y.msg h.of h.op h'.of.in_ h'.op.in_ l1 l2 (by rw [parI_len]; exact l3) (by rw [parI_len]; exact l4)).mono ?_
  rintro e w' ⟨b, rfl, hb, ho⟩
  refine ⟨b, rfl, hb.trans ⟨fun e => nd_ext e.1 e.2.1 e.2.2.1 e.2.2.2, fun e => by subst e; exact ⟨rfl, rfl, rfl, rfl⟩⟩, ho.mono (fun z _ hz => h.bf z hz)⟩
set_option maxRecDepth 100000 in
set_option maxHeartbeats 8000000 in
theorem glNode_any (h : GR w g t s d D B recs J rt F T S) (hm : MG w m lx A r S2 sr hz H) (hA : ASm A) (q : Int) (once : Bool) :
    Calls Tryz.prog 47 #[.pointer (some ⟨g, 0, none⟩), .pointer (some ⟨m, 0, none⟩), .int .i64 q, .bool once] w fun e w' => ∃ b : Bool, e = .returned (.bool b) ∧ (b = true ↔ ndA (absG J T) q = ndA A q) ∧ Only (fun _ => False) w w' := by
  have hAr := h.asm
  obtain ⟨X, hX⟩ : ∃ X, (ndA (absG J T) q).1 = X := ⟨_, rfl⟩
  obtain ⟨ex, hex⟩ : ∃ x, (ndA (absG J T) q).2 = x := ⟨_, rfl⟩
  obtain ⟨Y, hY⟩ : ∃ X, (ndA A q).1 = X := ⟨_, rfl⟩
  obtain ⟨ey, hey⟩ : ∃ x, (ndA A q).2 = x := ⟨_, rfl⟩
  have hsx := ndA_small hAr q
  have hsy := ndA_small hA q
  rw [hX] at hsx
  rw [hY] at hsy
  have HR : ∀ (W : World), Only (fun _ => False) w W → Calls Tryz.prog 95 #[.pointer (some ⟨g, 0, none⟩), .int .i64 q] W fun e w' => ∃ fa fc pa pc, e = .returned (.tuple #[.agg #[.int .i64 (X.seq : Int), .slice fa X.files.length fc, .slice pa (parI X).length pc, .string X.msg], .int .i64 (ex : Nat)]) ∧ Hid (NdQ W w' X fa fc pa pc) := fun W ho => by
    refine (gnode2_any (h.quiet ho) q).mono ?_
    intro e w' hP
    obtain ⟨fv, pv, he, hM⟩ := hP.one hAr.s
    rw [hX, hex] at he
    rw [hX] at hM
    obtain ⟨fa, fc, pa, pc, rfl, rfl, hq⟩ := hM.q
    exact ⟨fa, fc, pa, pc, he, hide hq⟩
  have HM : ∀ (W : World), Only (fun _ => False) w W → Calls Tryz.prog 96 #[.pointer (some ⟨m, 0, none⟩), .int .i64 q] W fun e w' => ∃ fa fc pa pc, e = .returned (.tuple #[.agg #[.int .i64 (Y.seq : Int), .slice fa Y.files.length fc, .slice pa (parI Y).length pc, .string Y.msg], .int .i64 (ey : Nat)]) ∧ Hid (NdQ W w' Y fa fc pa pc) := fun W ho => by
    refine (hnode_any (hm.quiet ho) hA q).mono ?_
    intro e w' hP
    obtain ⟨fv, pv, he, hM⟩ := hP.one hA.s
    rw [hY, hey] at he
    rw [hY] at hM
    obtain ⟨fa, fc, pa, pc, rfl, rfl, hq⟩ := hM.q
    exact ⟨fa, fc, pa, pc, he, hide hq⟩
  have HR := hide HR
  have HM := hide HM
  have hiff : (X = Y ∧ ex = ey) ↔ ndA (absG J T) q = ndA A q := by
    rw [← hX, ← hex, ← hY, ← hey]
    exact ⟨fun e => Prod.ext e.1 e.2, fun e => by rw [e]; exact ⟨rfl, rfl⟩⟩
  obtain ⟨P, hP⟩ : ∃ P : Prop, (ndA (absG J T) q = ndA A q) = P := ⟨_, rfl⟩
  rw [hP] at hiff ⊢
  have HI := hide hiff
  obtain ⟨be, hbe⟩ : ∃ b : Bool, decide (ex = ey) = b := ⟨_, rfl⟩
  have ce : ((ex : Int) == (ey : Int)) = be := by
    rw [← hbe]
    by_cases e : ex = ey
    · rw [e]; simp
    · rw [decide_eq_false e]; exact ne_intO (by omega)
  have Hbe : Hid (be = true ↔ ex = ey) := hide (by rw [← hbe]; exact decide_eq_true_iff)
  have O0 := hide (Only.refl (fun _ => False) w)
  have C1 := hide (unhide HR w (Only.refl _ w))
  obtain ⟨sx1, sx2⟩ := hsx
  obtain ⟨sy1, sy2⟩ := hsy
  clear hbe hX hex hY hey hP hiff h hm hA hAr
  go_enter Tryz.func47, Tryz.ntmps47
  go_wp2_with fail
  refine (unhide C1).mono ?_
  rintro e u1 ⟨fa1, fc1, pa1, pc1, rfl, hq1⟩
  have B1 := hide ((unhide hq1).b (w0 := w))
  have oa1 := (Only.refl (fun _ => False) u1).alloc (.cells #[.int .i64 (X.seq : Int), .slice fa1 X.files.length fc1, .slice pa1 (parI X).length pc1, .string X.msg] 128)
  have on1 := (unhide hq1).ho.trans oa1 (fun _ _ h => h)
  have hz1 := oa1.size
  have hy1 := (unhide hq1).ho.size
  have hx1 : (u1.alloc (.cells #[.int .i64 (X.seq : Int), .slice fa1 X.files.length fc1, .slice pa1 (parI X).length pc1, .string X.msg] 128)).heap.size = u1.heap.size + 1 := by simp
  have O1 := hide ((unhide O0).trans on1 (fun _ _ h => h))
  clear C1 hq1 oa1 on1 O0
  go_upto_region 2 with fail
  generalize hW1 : u1.alloc (.cells #[.int .i64 (X.seq : Int), .slice fa1 X.files.length fc1, .slice pa1 (parI X).length pc1, .string X.msg] 128) = W1 at *
  clear hW1
  have C2 := hide (unhide HM W1 (unhide O1))
  go_wp2_with fail
  refine (unhide C2).mono ?_
  rintro e u2 ⟨fa2, fc2, pa2, pc2, rfl, hq2⟩
  have B2 := hide ((unhide hq2).b (w0 := w))
  have oa2 := (Only.refl (fun _ => False) u2).alloc (.cells #[.int .i64 (Y.seq : Int), .slice fa2 Y.files.length fc2, .slice pa2 (parI Y).length pc2, .string Y.msg] 128)
  have on2 := (unhide hq2).ho.trans oa2 (fun _ _ h => h)
  have hz2 := oa2.size
  have hy2 := (unhide hq2).ho.size
  have hx2 : (u2.alloc (.cells #[.int .i64 (Y.seq : Int), .slice fa2 Y.files.length fc2, .slice pa2 (parI Y).length pc2, .string Y.msg] 128)).heap.size = u2.heap.size + 1 := by simp
  have O2 := hide ((unhide O1).trans on2 (fun _ _ h => h))
  have B1 := hide ((unhide B1).keep on2 (fun _ _ _ h => h) (by omega))
  clear C2 hq2 oa2 on2 O1
  go_upto_region 3 with fail
  generalize hW2 : u2.alloc (.cells #[.int .i64 (Y.seq : Int), .slice fa2 Y.files.length fc2, .slice pa2 (parI Y).length pc2, .string Y.msg] 128) = W2 at *
  clear hW2
  cases once with
  | true =>
    have x0 := (unhide B1).has.cell 0
    have x1 := (unhide B1).has.cell 1
    have x2 := (unhide B1).has.cell 2
    have x3 := (unhide B1).has.cell 3
    simp only [List.getElem?_toArray, List.getElem?_cons_zero, List.getElem?_cons_succ] at x0 x1 x2 x3
    have xl := (unhide B1).has.lt
    have y0 := (unhide B2).has.cell 0
    have y1 := (unhide B2).has.cell 1
    have y2 := (unhide B2).has.cell 2
    have y3 := (unhide B2).has.cell 3
    simp only [List.getElem?_toArray, List.getElem?_cons_zero, List.getElem?_cons_succ] at y0 y1 y2 y3
    have yl := (unhide B2).has.lt
    have D1 := hide (glcmp_any (unhide B1) (unhide B2) sx1 sy1 sx2 sy2)
    go_wp2_with fail
    refine (unhide D1).mono ?_
    rintro e r1 ⟨b, rfl, hb1, p1⟩
    have Hb := hide hb1
    have OF := hide ((unhide O2).trans p1 (fun z hz e => by omega))
    clear D1 hb1 p1 x0 x1 x2 x3 y0 y1 y2 y3 xl yl
    cases b with
    | false =>
      go_wp2_with fail
      go_ret
      exact ⟨false, rfl, ⟨fun e => Bool.noConfusion e, fun e => absurd ((unhide Hb).2 ((unhide HI).2 e).1) (by simp)⟩, unhide OF⟩
    | true =>
      have HB := hide ((unhide Hb).1 rfl)
      go_wp2_with fail
      go_ret
      exact ⟨be, rfl, ⟨fun e => (unhide HI).1 ⟨unhide HB, (unhide Hbe).1 e⟩, fun e => (unhide Hbe).2 ((unhide HI).2 e).2⟩, unhide OF⟩
  | false =>
    have C3 := hide (unhide HR W2 (unhide O2))
    go_wp2_with fail
    refine (unhide C3).mono ?_
    rintro e u3 ⟨fa3, fc3, pa3, pc3, rfl, hq3⟩
    have B3 := hide ((unhide hq3).b (w0 := w))
    have oa3 := (Only.refl (fun _ => False) u3).alloc (.cells #[.int .i64 (X.seq : Int), .slice fa3 X.files.length fc3, .slice pa3 (parI X).length pc3, .string X.msg] 128)
    have on3 := (unhide hq3).ho.trans oa3 (fun _ _ h => h)
    have hz3 := oa3.size
    have hy3 := (unhide hq3).ho.size
    have hx3 : (u3.alloc (.cells #[.int .i64 (X.seq : Int), .slice fa3 X.files.length fc3, .slice pa3 (parI X).length pc3, .string X.msg] 128)).heap.size = u3.heap.size + 1 := by simp
    have O3 := hide ((unhide O2).trans on3 (fun _ _ h => h))
    have B1 := hide ((unhide B1).keep on3 (fun _ _ _ h => h) (by omega))
    have B2 := hide ((unhide B2).keep on3 (fun _ _ _ h => h) (by omega))
    clear C3 hq3 oa3 on3 O2
    go_upto_region 7 with fail
    generalize hW3 : u3.alloc (.cells #[.int .i64 (X.seq : Int), .slice fa3 X.files.length fc3, .slice pa3 (parI X).length pc3, .string X.msg] 128) = W3 at *
    clear hW3
    have C4 := hide (unhide HR W3 (unhide O3))
    go_wp2_with fail
    refine (unhide C4).mono ?_
    rintro e u4 ⟨fa4, fc4, pa4, pc4, rfl, hq4⟩
    have B4 := hide ((unhide hq4).b (w0 := w))
    have oa4 := (Only.refl (fun _ => False) u4).alloc (.cells #[.int .i64 (X.seq : Int), .slice fa4 X.files.length fc4, .slice pa4 (parI X).length pc4, .string X.msg] 128)
    have on4 := (unhide hq4).ho.trans oa4 (fun _ _ h => h)
    have hz4 := oa4.size
    have hy4 := (unhide hq4).ho.size
    have hx4 : (u4.alloc (.cells #[.int .i64 (X.seq : Int), .slice fa4 X.files.length fc4, .slice pa4 (parI X).length pc4, .string X.msg] 128)).heap.size = u4.heap.size + 1 := by simp
    have O4 := hide ((unhide O3).trans on4 (fun _ _ h => h))
    have B1 := hide ((unhide B1).keep on4 (fun _ _ _ h => h) (by omega))
    have B2 := hide ((unhide B2).keep on4 (fun _ _ _ h => h) (by omega))
    have B3 := hide ((unhide B3).keep on4 (fun _ _ _ h => h) (by omega))
    clear C4 hq4 oa4 on4 O3
    go_upto_region 8 with fail
    generalize hW4 : u4.alloc (.cells #[.int .i64 (X.seq : Int), .slice fa4 X.files.length fc4, .slice pa4 (parI X).length pc4, .string X.msg] 128) = W4 at *
    clear hW4
    have x0 := (unhide B1).has.cell 0
    have x1 := (unhide B1).has.cell 1
    have x2 := (unhide B1).has.cell 2
    have x3 := (unhide B1).has.cell 3
    simp only [List.getElem?_toArray, List.getElem?_cons_zero, List.getElem?_cons_succ] at x0 x1 x2 x3
    have xl := (unhide B1).has.lt
    have y0 := (unhide B2).has.cell 0
    have y1 := (unhide B2).has.cell 1
    have y2 := (unhide B2).has.cell 2
    have y3 := (unhide B2).has.cell 3
    simp only [List.getElem?_toArray, List.getElem?_cons_zero, List.getElem?_cons_succ] at y0 y1 y2 y3
    have yl := (unhide B2).has.lt
    have D1 := hide (glcmp_any (unhide B1) (unhide B2) sx1 sy1 sx2 sy2)
    go_wp2_with fail
    refine (unhide D1).mono ?_
    rintro e r1 ⟨b, rfl, hb1, p1⟩
    have Hb := hide hb1
    have O5 := hide ((unhide O4).trans p1 (fun z hz e => by omega))
    have B2 := hide ((unhide B2).keep p1 (fun z h1 h2 e => by omega) (by omega))
    have B3 := hide ((unhide B3).keep p1 (fun z h1 h2 e => by omega) (by omega))
    have B4 := hide ((unhide B4).keep p1 (fun z h1 h2 e => by omega) (by omega))
    clear D1 hb1 p1 x0 x1 x2 x3 y0 y1 y2 y3 xl yl B1 O4
    go_upto_region 9 with fail
    have x0 := (unhide B3).has.cell 0
    have x1 := (unhide B3).has.cell 1
    have x2 := (unhide B3).has.cell 2
    have x3 := (unhide B3).has.cell 3
    simp only [List.getElem?_toArray, List.getElem?_cons_zero, List.getElem?_cons_succ] at x0 x1 x2 x3
    have xl := (unhide B3).has.lt
    have y0 := (unhide B2).has.cell 0
    have y1 := (unhide B2).has.cell 1
    have y2 := (unhide B2).has.cell 2
    have y3 := (unhide B2).has.cell 3
    simp only [List.getElem?_toArray, List.getElem?_cons_zero, List.getElem?_cons_succ] at y0 y1 y2 y3
    have yl := (unhide B2).has.lt
    have D2 := hide (glcmp_any (unhide B3) (unhide B2) sx1 sy1 sx2 sy2)
    go_wp2_with fail
    refine (unhide D2).mono ?_
    rintro e r2 ⟨b7, rfl, hb2, p2⟩
    obtain rfl := iff_bool (unhide Hb) hb2
    have O6 := hide ((unhide O5).trans p2 (fun z hz e => by omega))
    have B2 := hide ((unhide B2).keep p2 (fun z h1 h2 e => by omega) (by omega))
    have B4 := hide ((unhide B4).keep p2 (fun z h1 h2 e => by omega) (by omega))
    clear D2 hb2 p2 x0 x1 x2 x3 y0 y1 y2 y3 xl yl B3 O5
    go_upto_region 10 with fail
    have x0 := (unhide B4).has.cell 0
    have x1 := (unhide B4).has.cell 1
    have x2 := (unhide B4).has.cell 2
    have x3 := (unhide B4).has.cell 3
    simp only [List.getElem?_toArray, List.getElem?_cons_zero, List.getElem?_cons_succ] at x0 x1 x2 x3
    have xl := (unhide B4).has.lt
    have y0 := (unhide B2).has.cell 0
    have y1 := (unhide B2).has.cell 1
    have y2 := (unhide B2).has.cell 2
    have y3 := (unhide B2).has.cell 3
    simp only [List.getElem?_toArray, List.getElem?_cons_zero, List.getElem?_cons_succ] at y0 y1 y2 y3
    have yl := (unhide B2).has.lt
    have D3 := hide (glcmp_any (unhide B4) (unhide B2) sx1 sy1 sx2 sy2)
    go_wp2_with fail
    refine (unhide D3).mono ?_
    rintro e r3 ⟨b9, rfl, hb3, p3⟩
    obtain rfl := iff_bool (unhide Hb) hb3
    have OF := hide ((unhide O6).trans p3 (fun z hz e => by omega))
    clear D3 hb3 p3 x0 x1 x2 x3 y0 y1 y2 y3 xl yl B4 B2 O6
    cases b with
    | false =>
      go_wp2_with fail
      go_ret
      exact ⟨false, rfl, ⟨fun e => Bool.noConfusion e, fun e => absurd ((unhide Hb).2 ((unhide HI).2 e).1) (by simp)⟩, unhide OF⟩
    | true =>
      have HB := hide ((unhide Hb).1 rfl)
      cases be with
      | false =>
        go_wp2_with fail
        go_ret
        exact ⟨false, rfl, ⟨fun e => Bool.noConfusion e, fun e => absurd ((unhide Hbe).2 ((unhide HI).2 e).2) (by simp)⟩, unhide OF⟩
      | true =>
        have HE := hide ((unhide Hbe).1 rfl)
        go_wp2_with fail
        go_ret
        exact ⟨true, rfl, ⟨fun _ => (unhide HI).1 ⟨unhide HB, unhide HE⟩, fun _ => rfl⟩, unhide OF⟩
end
end Go.Proofs.Qxb6500417aGreat
