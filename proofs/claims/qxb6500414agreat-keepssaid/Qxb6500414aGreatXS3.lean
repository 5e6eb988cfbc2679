/-
  OWN WORK. THE TXN LAW: ShadowOf (written by tools/gen_xs3.py).
-/
import Derived.Test.Qxb6500414aGreatXS2
namespace Go.Proofs.Qxb6500414aGreat
open Go.RowKit Go.PlainAid
set_option linter.unusedSimpArgs false
set_option linter.unusedVariables false

theorem Tryz.sizeYDB : (Tryz.prog.info? 37).map (·.size) = some 1 := by kernel_rfl
theorem GEl.neTy {w : World} {e : GE} (E : GEl w e) {b : Nat} {c : Array Value} {ty : TypeId} (H : Has w b c ty) (h2 : 47 ≠ ty) (h3 : 169 ≠ ty) (h4 : 106 ≠ ty) : ∀ k, GEm e k ∨ GEi e k → k ≠ b := by
  rintro k (hk | hk | ⟨u, hu, hk⟩)
  · exact ownsRow_ne E.rs H h2 k hk
  · exact ownsRow_ne E.col H h3 k hk
  · obtain ⟨j, hj⟩ := List.getElem?_of_mem hu
    have hl := (List.getElem?_eq_some_iff.mp hj).1
    obtain ⟨r, hr⟩ := getE (l := e.t.rows) (i := j) (by rw [← E.n]; exact hl)
    exact ownsRow_ne (E.row j u r hj hr) H h4 k hk
/-- The shadow so far. -/
structure ShI (lo kd : Nat) (D : Db) (i : Nat) (l : List GE) (tv : Value) (wr : World) : Prop where
  has : Has wr kd #[tv] 37
  own : wr.ownsRow 0 136 5 tv l.length (gcs l)
  tb : ∀ k, tv.ownBlock = some k → lo ≤ k
  el : ∀ e ∈ l, GEl wr e
  fr : ∀ e ∈ l, ∀ k, GEm e k ∨ GEi e k → lo ≤ k
  sep : l.Pairwise (fun a b => ∀ k, GEm a k → ¬ GEm b k)
  tt : l.map (·.t) = D.take i
section
variable {lo kd i : Nat} {D : Db} {l : List GE} {tv : Value} {wr w' w1 : World}
theorem ShI.keep {B : Nat → Prop} (h : ShI lo kd D i l tv wr) (ho : Only B wr w') (hB : ∀ k, k = kd ∨ lo ≤ k → ¬ B k) : ShI lo kd D i l tv w' :=
  ⟨h.has.keep ho (hB kd (.inl rfl)), ownsRow_keep h.own ho (fun k hk => hB k (.inr (h.tb k hk))), h.tb, fun e he => (h.el e he).keep ho (fun k hk => hB k (.inr (h.fr e he k (.inl hk)))) (fun k hk => hB k (.inr (h.fr e he k (.inr hk)))), h.fr, h.sep, h.tt⟩
theorem ShI.quiet (h : ShI lo kd D i l tv wr) (ho : Only (fun _ => False) wr w') : ShI lo kd D i l tv w' := h.keep ho (fun _ _ h => h)
theorem GEl.ltB {w : World} {e : GE} (E : GEl w e) : ∀ k, GEm e k ∨ GEi e k → k < w.heap.size := by
  rintro k (hk | hk | ⟨u, hu, hk⟩)
  · exact ownsRow_lt E.rs k hk
  · exact E.col.lt k hk
  · obtain ⟨j, hj⟩ := List.getElem?_of_mem hu
    have hl := (List.getElem?_eq_some_iff.mp hj).1
    obtain ⟨r, hr⟩ := getE (l := e.t.rows) (i := j) (by rw [← E.n]; exact hl)
    exact (E.row j u r hj hr).lt k hk
/-- One table more. -/
theorem ShI.push (h : ShI lo kd D i l tv wr) {e : GE} (E : GEl wr e) (hfr : ∀ k, GEm e k ∨ GEi e k → lo ≤ k) (hsep : ∀ a ∈ l, ∀ k, GEm a k → ¬ GEm e k) (ht : D[i]? = some e.t) {o : Obj} {v' : Value} {w9 : World} {n : Nat} (hn : n = l.length + 1) (hown : w9.ownsRow 0 136 5 v' n (gcs l ++ [.string e.t.nm, e.cv, .int .i64 (e.t.pk : Int), .int .i64 (ixI e.t.ix), e.rv])) (hgrow : (wr.alloc o).grownBy w9 tv.ownBlock) (hwhere : ∀ k, v'.ownBlock = some k → tv.ownBlock = some k ∨ wr.heap.size ≤ k) (hlo : lo ≤ wr.heap.size) (hkd : kd < lo) : ShI lo kd D (i + 1) (l ++ [e]) v' (w9.setCell ⟨kd, 0, none⟩ v') := by
  have og : Only (fun b => tv.ownBlock = some b) wr w9 := ((Only.refl _ wr).alloc o).grown hgrow (fun b hb _ => hb)
  have o1 : Only (fun b => b = kd) w9 (w9.setCell ⟨kd, 0, none⟩ v') := only1 _ _
  have kne : ∀ {y : GE}, GEl wr y → ∀ k, GEm y k ∨ GEi y k → ¬ tv.ownBlock = some k := fun {y} Y k hk hh => by
    obtain ⟨c, hc⟩ := ownsRow_has h.own hh
    exact Y.neTy hc (by decide) (by decide) (by decide) k hk rfl
  have kkd : ∀ {y : GE}, GEl wr y → ∀ k, GEm y k ∨ GEi y k → ¬ k = kd := fun {y} Y k hk hh => Y.neTy h.has (by decide) (by decide) (by decide) k hk hh
  have kp : ∀ {y : GE}, GEl wr y → GEl (w9.setCell ⟨kd, 0, none⟩ v') y := fun {y} Y => (Y.keep og (fun k hk => kne Y k (.inl hk)) (fun k hk => kne Y k (.inr hk))).keep o1 (fun k hk => kkd Y k (.inl hk)) (fun k hk => kkd Y k (.inr hk))
  have hk9 : Has w9 kd #[tv] 37 := h.has.keep og (fun c => by have := h.tb kd c; omega)
  have hv9 : ∀ k, v'.ownBlock = some k → lo ≤ k := fun k hk => by
    rcases hwhere k hk with c | c
    · exact h.tb k c
    · omega
  have hlen : (l ++ [e]).length = n := by rw [List.length_append, hn]; rfl
  refine ⟨?_, ?_, hv9, fun y hy => ?_, fun y hy => ?_, ?_, ?_⟩
  · have := hk9.setCell 0 v'
    simpa using this
  · rw [hlen]
    have hg : gcs (l ++ [e]) = gcs l ++ [.string e.t.nm, e.cv, .int .i64 (e.t.pk : Int), .int .i64 (ixI e.t.ix), e.rv] := by rw [gcs_app]; rfl
    rw [hg]
    exact ownsRow_keep hown o1 (fun k hk c => by have := hv9 k hk; have c' : k = kd := c; omega)
  · rcases List.mem_append.mp hy with hy | hy
    · exact kp (h.el y hy)
    · obtain rfl : y = e := by simpa using hy
      exact kp E
  · rcases List.mem_append.mp hy with hy | hy
    · exact h.fr y hy
    · obtain rfl : y = e := by simpa using hy
      exact hfr
  · rw [List.pairwise_append]
    refine ⟨h.sep, by simp, fun a ha b hb => ?_⟩
    obtain rfl : b = e := by simpa using hb
    exact hsep a ha
  · rw [List.map_append, h.tt, List.take_add_one, ht]
    rfl
theorem ShI.done (h : ShI lo kd D D.length l tv wr) (G : DGd D) : ML wr tv l ∧ l.map (·.t) = D ∧ ∀ k, MLm tv l k ∨ MLi l k → lo ≤ k := by
  have ht : l.map (·.t) = D := by rw [h.tt, List.take_length]
  refine ⟨⟨h.own, h.el, ?_, ?_, h.sep⟩, ht, ?_⟩
  · have e : l.map (·.t.nm) = D.map (fun t => t.nm) := by rw [← ht, List.map_map]; rfl
    rw [e]
    unfold List.Nodup
    rw [List.pairwise_map]
    exact G.srt.imp (fun hab e => lt_ne hab e)
  · have := congrArg List.length ht
    rw [List.length_map] at this
    rw [this]
    exact G.len
  · rintro k ((hk | ⟨e, he, hk⟩) | ⟨e, he, hk⟩)
    · exact h.tb k hk
    · exact h.fr e he k (.inl hk)
    · exact h.fr e he k (.inr hk)
end
/-- What ShadowOf leaves. -/
def SoW (q : Gnd) (w : World) (g x : Nat) (M : Mu) (K : Nat → Prop) (D : Db) (e : Ending) (w' : World) : Prop := ∃ tv l, e = .returned (.agg #[tv]) ∧ ML w' tv l ∧ l.map (·.t) = D ∧ (∀ k, MLm tv l k ∨ MLi l k → w.heap.size ≤ k) ∧ RX q w' g x M K ∧ Only q.S w w'
section
variable {q : Gnd} {w : World} {g x : Nat} {M : Mu} {K : Nat → Prop} {D : Db}
set_option maxRecDepth 100000 in
set_option maxHeartbeats 4000000 in
theorem shadowOf_any (R : RX q w g x M K) {s : Nat} (hs4 : s < 4) (hcom : M.com = D) (hsee : M.see s = D) : Calls Tryz.prog 18 #[.pointer (some ⟨g, 0, none⟩), .int .i64 (s : Int)] w (SoW q w g x M K D) := by
  obtain ⟨i0, hi0, hz0, hz1, hz2⟩ := info_parts Tryz.infoYTab
  have GD : DGd D := by rw [← hcom]; exact R.dg.1
  have o1 : Only (fun _ => False) w ((w.alloc (.cells #[.slice none 0 0] 37)).alloc (.cells #[.slice none 0 0] 37)) := ((Only.refl _ w).alloc _).alloc _
  have A1 : Has ((w.alloc (.cells #[.slice none 0 0] 37)).alloc (.cells #[.slice none 0 0] 37)) w.heap.size #[.slice none 0 0] 37 := (Has.new w _ _).alloc _
  have B1 : Has ((w.alloc (.cells #[.slice none 0 0] 37)).alloc (.cells #[.slice none 0 0] 37)) (w.heap.size + 1) #[.slice none 0 0] 37 := Has.new' _ _ _ _ (by simp)
  have C1 := hide (rtables_any (R.quiet o1))
  have HAl := hide (show ∀ k, w.heap.size ≤ k → ¬ q.S k ∧ ¬ q.A k ∧ k ≠ x ∧ ¬ K k from fun k h => ⟨R.Sb h, fun c => by have := R.Alt.1 k c; omega, fun c => by have := R.Alt.2; omega, fun c => by have := (R.kA k c).2.2; omega⟩)
  have HA := hide A1
  have HB := hide B1
  have HO := hide o1
  have HG := hide GD
  have Hc := hide (And.intro hcom hsee)
  have Hgd := hide (show gdS (s : Int) from ⟨by omega, by omega⟩)
  clear R o1 A1 B1 GD hcom hsee
  go_enter Tryz.func18, Tryz.ntmps18
  go_upto_region 2 with fail
  generalize (w.alloc (.cells #[.slice none 0 0] 37)).alloc (.cells #[.slice none 0 0] 37) = w1 at *
  have ka1 := (unhide HA).lt
  have kb1 := (unhide HB).lt
  generalize hka : w.heap.size = ka at *
  have Hka := hide hka
  clear hka
  go_wp2_with fail
  refine (unhide C1).mono ?_
  rintro e w2 ⟨nv, rfl, hN2, hNw, R2, o2⟩
  obtain ⟨na, nc, hna⟩ := ownsRow_shape hN2
  obtain ⟨n, hn⟩ : ∃ n, (namesD M.com).length = n := ⟨_, rfl⟩
  rw [hn] at hna
  subst hna
  have hnD : D.length = n := by rw [← hn, (unhide Hc).1]; unfold namesD; rw [List.length_map]
  have hn3 : n ≤ 3 := by rw [← hnD]; exact (unhide HG).len
  have s2 := o2.size
  have HN := hide hN2
  have HnD := hide hnD
  have Hnl := hide hn
  have HNq := hide (show ∀ k, (Value.slice na n nc).ownBlock = some k → w1.heap.size ≤ k from hNw)
  have HR2 := hide R2
  have HO2 := hide (((unhide HO).mono (T := q.S) (fun _ _ h => h.elim)).trans o2 (fun _ _ h => h))
  have HA2 := hide ((unhide HA).keep o2 (unhide HAl ka (by omega)).1)
  have I2 : ShI w2.heap.size (ka + 1) D 0 [] (.slice none 0 0) w2 := ⟨(unhide HB).keep o2 (unhide HAl (ka + 1) (by omega)).1, World.ownsRow_nil _ _ _ _, (fun k h => by cases h), (fun e h => by cases h), (fun e h => by cases h), List.Pairwise.nil, rfl⟩
  have HI := hide I2
  have hlo : ka + 1 < w2.heap.size := I2.has.lt
  obtain ⟨lo, hloe⟩ : ∃ lo, w2.heap.size = lo := ⟨_, rfl⟩
  rw [hloe] at HI hlo s2
  have Hlo := hide hloe
  clear C1 R2 o2 hN2 hNw I2 hn hnD hloe
  go_upto_region 4 with fail
  go_loopw [7, 8, 9, 10, 11, 12, 13] (fun iv _ _ _ _ _ _ wr => ∃ (i : Nat) (l : List GE) (tv : Value), iv = .int .i64 i ∧ i ≤ n ∧ l.length = i ∧ lo ≤ wr.heap.size ∧ ShI lo (ka + 1) D i l tv wr ∧ RX q wr g x M K ∧ Only (fun k => q.S k ∨ k = ka + 1 ∨ lo ≤ k) w2 wr) (fun iv _ _ _ _ _ _ _ => n + 1 - (intOf iv).toNat)
  case atStart => exact ⟨0, [], _, rfl, Nat.zero_le _, rfl, by rw [unhide Hlo]; exact Nat.le_refl _, unhide HI, unhide HR2, Only.refl _ _⟩
  case round =>
    clear HI HR2
    obtain ⟨i, l, tv, rfl, hi, hli, hlw, I, R3, o3⟩ := hrel
    by_cases hin : i < n
    · have a1 : decide ((i : Int) < (n : Int)) = true := decide_eq_true (by omega)
      have a1p : (i : Int) < (n : Int) := by omega
      obtain ⟨t, ht⟩ := getE (l := D) (i := i) (by rw [unhide HnD]; exact hin)
      have htD : t ∈ D := List.mem_of_getElem? ht
      have hf : findD D t.nm = some t := (unhide HG).find htD
      have tok := (unhide HG).tb t htD
      have N3 := ownsRow_keep (unhide HN) o3 (fun k hk c => by
        have h1 := unhide HNq k hk
        have h2 := ownsRow_lt (unhide HN) k hk
        have h3 := unhide Hlo
        rcases c with c | c | c
        · exact (unhide HAl k (by omega)).1 c
        · omega
        · omega)
      obtain ⟨ng, hng⟩ : ∃ ng, na = some ⟨ng, 0, none⟩ := own_slice (by have := N3; rw [unhide Hnl] at this; exact this) (by omega)
      subst hng
      have nc0 := World.ownsRow.cells N3 (g := ng) rfl i (.string t.nm) (by
        rw [(unhide Hc).1]
        unfold namesD
        rw [List.getElem?_map, List.getElem?_map, ht]
        rfl)
      rw [addr_add] at nc0
      have ngl : ng < wr.heap.size := ownsRow_lt N3 ng rfl
      have C2 := hide (rschemaOf_any R3 t.nm)
      have HF := hide (And.intro hf (And.intro ht tok))
      have HI := hide I
      have HO3 := hide o3
      have HN3 := hide N3
      have HSn := hide (show ∀ k, wr.heap.size ≤ k → ¬ q.S k from fun k h => R3.Sb h)
      clear I R3 o3 ht htD hf tok N3
      go_wp2_with fail
      refine (unhide C2).mono ?_
      rintro y wq ⟨R4, o4, h4⟩
      obtain ⟨cv, rfl, hC4, hnc4⟩ : ∃ cv, y = .returned (.tuple #[.agg (scC t.nm cv (t.pk : Int) (ixI t.ix)), .int .i64 0]) ∧ OwnC wq cv t.cols ∧ Newer wr cv := by
        rw [(unhide Hc).1] at h4
        rcases h4 with ⟨hf, _⟩ | ⟨t', cv, hf, hy, h1, h2⟩
        · rw [(unhide HF).1] at hf; cases hf
        · rw [(unhide HF).1] at hf
          obtain rfl := Option.some.inj hf
          exact ⟨cv, hy, h1, h2⟩
      obtain ⟨ca, cc, hca⟩ := hC4.shape
      obtain ⟨cn, hcn⟩ : ∃ k, t.cols.length = k := ⟨_, rfl⟩
      rw [hcn] at hca
      subst hca
      unfold scC
      have oS : Only (fun _ => False) wq (wq.alloc (.cells #[.string t.nm, .slice ca cn cc, .int .i64 (t.pk : Int), .int .i64 (ixI t.ix)] 51)) := (Only.refl _ _).alloc _
      have HSc := hide (Has.new wq #[.string t.nm, .slice ca cn cc, .int .i64 (t.pk : Int), .int .i64 (ixI t.ix)] 51)
      have s4 := o4.size
      have HR4 := hide (R4.quiet oS)
      have HNks := hide (show ¬ q.S wq.heap.size from R4.Sb (Nat.le_refl _))
      have HC4 := hide (And.intro (hC4.keep oS (fun _ _ h => h)) (show ∀ k, (Value.slice ca cn cc).ownBlock = some k → ¬ q.S k from fun k h => unhide HSn k (hnc4 k h)))
      have HO4 := hide (o4.trans (oS.mono (T := q.S) (fun _ _ h => h.elim)) (fun _ _ h => h))
      have HN4 := hide (ownsRow_keep (unhide HN3) (unhide HO4) (fun k hk => (unhide HAl k (by have := unhide HNq k hk; omega)).1))
      have Hcn := hide hcn
      clear C2 R4 o4 h4 hC4 hnc4 oS nc0 hcn HN3
      go_upto_region 7 with fail
      generalize wq.alloc (.cells #[.string t.nm, .slice ca cn cc, .int .i64 (t.pk : Int), .int .i64 (ixI t.ix)] 51) = w4 at *
      generalize wq.heap.size = ks at *
      have nc0 := World.ownsRow.cells (unhide HN4) (g := ng) rfl i (.string t.nm) (by
        rw [(unhide Hc).1]
        unfold namesD
        rw [List.getElem?_map, List.getElem?_map, (unhide HF).2.1]
        rfl)
      rw [addr_add] at nc0
      have ngl4 : ng < w4.heap.size := ownsRow_lt (unhide HN4) ng rfl
      have C5 := hide (rview_any (unhide HR4) (s : Int) t.nm)
      go_wp2_with fail
      refine (unhide C5).mono ?_
      rintro y w5 ⟨R5, o5, h5⟩
      obtain ⟨rv, Z, rfl, hRL, hZ⟩ : ∃ rv Z, y = .returned (.tuple #[rv, .int .i64 0]) ∧ RL w4.heap.size rv Z w5 ∧ Z.map (·.2) = t.rows := by
        rw [(unhide Hc).1, show M.see ((s : Nat) : Int).toNat = D from (unhide Hc).2] at h5
        rcases h5 with ⟨hs, _⟩ | ⟨_, hf, _⟩ | ⟨t', rv, Z, _, hf, _, hy, h1, h2⟩
        · exact absurd (unhide Hgd) hs
        · rw [(unhide HF).1] at hf; cases hf
        · rw [(unhide HF).1] at hf
          obtain rfl := Option.some.inj hf
          exact ⟨rv, Z, hy, h1, h2⟩
      obtain ⟨rva, rvc, hrva⟩ := ownsRow_shape hRL.own
      have hZl : Z.length = t.rows.length := by rw [← hZ, List.length_map]
      obtain ⟨zn, hzn⟩ : ∃ k, t.rows.length = k := ⟨_, rfl⟩
      rw [hZl, hzn] at hrva
      subst hrva
      have HO5 := hide ((unhide HO4).trans o5 (fun _ _ h => h))
      have Sc5 := (unhide HSc).keep o5 (unhide HNks)
      have C6 := mcloneSchema_any ((unhide HC4).1.keep o5 (unhide HC4).2) (by have := (unhide HF).2.2.n3; omega) t.nm (t.pk : Int) (ixI t.ix)
      unfold schA at C6
      rw [unhide Hcn] at C6
      have C6 := hide C6
      have HR5 := hide R5
      have HZ := hide (And.intro hRL hZ)
      have Hzn := hide (And.intro hZl hzn)
      have c0 : w5.cell? ⟨ks, 0, none⟩ = some (.string t.nm) := Sc5.cell 0
      have c1 : w5.cell? ⟨ks, 1, none⟩ = some (.slice ca cn cc) := Sc5.cell 1
      have c2 : w5.cell? ⟨ks, 2, none⟩ = some (.int .i64 (t.pk : Int)) := Sc5.cell 2
      have c3 : w5.cell? ⟨ks, 3, none⟩ = some (.int .i64 (ixI t.ix)) := Sc5.cell 3
      have ksl := Sc5.lt
      have s5 := o5.size
      have sO5 := (unhide HO5).size
      clear C5 R5 o5 h5 hRL hZ hZl hzn nc0 Sc5 HR4 HO4
      go_wp2_with fail
      refine (unhide C6).mono ?_
      rintro y wz ⟨zc, rfl, OC6, hzc, o6⟩
      have oT : Only (fun _ => False) wz (wz.alloc (.cells #[.string t.nm, .slice (some ⟨zc, 0, none⟩) cn cn, .int .i64 (t.pk : Int), .int .i64 (ixI t.ix)] 51)) := (Only.refl _ _).alloc _
      have HSd := hide (Has.new wz #[.string t.nm, .slice (some ⟨zc, 0, none⟩) cn cn, .int .i64 (t.pk : Int), .int .i64 (ixI t.ix)] 51)
      have o56 := o6.trans oT (fun _ _ h => h)
      have HR6 := hide ((unhide HR5).quiet o56)
      have HOC6 := hide (And.intro (OC6.keep oT (fun _ _ h => h)) hzc)
      have HO6 := hide ((unhide HO5).trans (o56.mono (T := q.S) (fun _ _ h => h.elim)) (fun _ _ h => h))
      have HRL6 := hide ((unhide HZ).1.quiet o56)
      have s6 := o6.size
      clear C6 o6 oT o56 OC6 hzc c0 c1 c2 c3 HR5
      go_upto_region 9 with fail
      generalize wz.alloc (.cells #[.string t.nm, .slice (some ⟨zc, 0, none⟩) cn cn, .int .i64 (t.pk : Int), .int .i64 (ixI t.ix)] 51) = w6 at *
      have ksd := (unhide HSd).lt
      generalize hkse : wz.heap.size = ke at *
      have Hke := hide hkse
      clear hkse
      have C7 := cloneRowsL_any (unhide HRL6) (by rw [(unhide Hzn).1]; exact (unhide HF).2.2.len) (fun z hz => by
        have : z.2 ∈ t.rows := by rw [← (unhide HZ).2]; exact List.mem_map.mpr ⟨z, hz, rfl⟩
        rw [((unhide HF).2.2.row _ this).len]
        have := (unhide HF).2.2.n3
        omega)
      rw [(unhide HZ).2] at C7
      have C7 := hide C7
      go_wp2_with fail
      refine (unhide C7).mono ?_
      rintro y w7 ⟨zb, us, rfl, hul, O7, hur, hzb, hus, o7⟩
      rw [(unhide Hzn).2] at hul O7 ⊢
      have s7 := o7.size
      have I7 := ((unhide HI).keep (unhide HO6) (fun k hk => (unhide HAl k (by rcases hk with h | h <;> omega)).1)).quiet o7
      obtain ⟨ta, tcap, htv⟩ := ownsRow_shape I7.own
      have E7 : GEl w7 ⟨t, .slice (some ⟨zc, 0, none⟩) cn cn, .slice (some ⟨zb, 0, none⟩) zn zn, us⟩ := ⟨GT.ok ⟨rfl, rfl, rfl, rfl, List.Perm.refl _⟩ (unhide HF).2.2, (unhide HOC6).1.keep o7 (fun _ _ h => h), O7, by rw [hul]; exact (unhide Hzn).2.symm, hur⟩
      have HPush := hide (fun (v' : Value) (w9 : World) (ob : Obj) hown hgrow hwhere => I7.push E7 (fun k hk => by
        rcases hk with hk | hk | ⟨u, hu, hk⟩
        · have hk' : (Value.slice (some ⟨zb, 0, none⟩) zn zn).ownBlock = some k := hk
          simp [Value.ownBlock] at hk'
          omega
        · have hk' : (Value.slice (some ⟨zc, 0, none⟩) cn cn).ownBlock = some k := hk
          simp [Value.ownBlock] at hk'
          have := (unhide HOC6).2
          omega
        · have := hus u hu k hk
          omega) (fun a ha k hk hk2 => by
        have hk' : (Value.slice (some ⟨zb, 0, none⟩) zn zn).ownBlock = some k := hk2
        simp [Value.ownBlock] at hk'
        have h1 := (((unhide HI).keep (unhide HO6) (fun k hk => (unhide HAl k (by rcases hk with h | h <;> omega)).1)).el a ha).ltB k (.inl hk)
        omega) (unhide HF).2.1 (v' := v') (w9 := w9) (o := ob) (n := i + 1) (by rw [hli]) hown hgrow hwhere (by omega) (by omega))
      have HI7 := hide I7
      have HR7 := hide ((unhide HR6).quiet o7)
      have HO7 := hide ((unhide HO6).trans (o7.mono (T := q.S) (fun _ _ h => h.elim)) (fun _ _ h => h))
      have own1 := I7.own
      have d0 : w7.cell? ⟨ka + 1, 0, none⟩ = some (.slice ta l.length tcap) := by rw [← htv]; exact I7.has.cell 0
      have df := I7.has.free 0
      have kd7 := I7.has.lt
      have Sd7 := (unhide HSd).keep o7 (fun h => h)
      have c0 : w7.cell? ⟨ke, 0, none⟩ = some (.string t.nm) := Sd7.cell 0
      have c1 : w7.cell? ⟨ke, 1, none⟩ = some (.slice (some ⟨zc, 0, none⟩) cn cn) := Sd7.cell 1
      have c2 : w7.cell? ⟨ke, 2, none⟩ = some (.int .i64 (t.pk : Int)) := Sd7.cell 2
      have c3 : w7.cell? ⟨ke, 3, none⟩ = some (.int .i64 (ixI t.ix)) := Sd7.cell 3
      have kel := Sd7.lt
      have Htv := hide htv
      rw [hli] at d0 own1
      rw [htv, hli] at own1
      clear C7 I7 E7 o7 O7 hur hus hul hzb Sd7 htv
      go_wp2_with (at_builtin; refine wpList_append2 _ rfl _ _ 35 rfl 136 i0 _ 5 80 Tryz.underlying35 hi0 hz0 hz1 hz2 rfl (by decide) _ _ _ rfl (own1.alloc _) ⟨w7.heap.size, 0, none⟩ 1 1 [.string t.nm, .slice (some ⟨zc, 0, none⟩) cn cn, .int .i64 (t.pk : Int), .int .i64 (ixI t.ix), .slice (some ⟨zb, 0, none⟩) zn zn] rfl rfl ?c1 ?c2 ?c3 ?c4 ?_)
      case c1 => exact news_ok _ [.string t.nm, .slice (some ⟨zc, 0, none⟩) cn cn, .int .i64 (t.pk : Int), .int .i64 (ixI t.ix), .slice (some ⟨zb, 0, none⟩) zn zn] 136 _ rfl
      case c2 => intro u hu; simp at hu; rcases hu with rfl | rfl | rfl | rfl | rfl <;> rfl
      case c3 => unfold maxLen; omega
      case c4 => omega
      intro v' w9 hown hgrow hwhere
      obtain ⟨va2, vc2, rfl⟩ := ownsRow_shape hown
      have hgrow2 := hgrow
      have hwh2 := hwhere
      have htve : Value.slice ta i tcap = tv := by rw [unhide Htv, hli]
      rw [htve] at hgrow2 hwh2
      have hP := unhide HPush (.slice va2 (i + 1) vc2) w9 _ hown hgrow2 (fun k hk => by
        rcases hwh2 k hk with c | c
        · exact .inl c
        · refine .inr ?_
          have : (w7.alloc (.cells #[.string t.nm, .slice (some ⟨zc, 0, none⟩) cn cn, .int .i64 (t.pk : Int), .int .i64 (ixI t.ix), .slice (some ⟨zb, 0, none⟩) zn zn] 136)).heap.size = w7.heap.size + 1 := by simp
          omega)
      have og : Only (fun b => tv.ownBlock = some b) w7 w9 := ((Only.refl _ w7).alloc _).grown hgrow2 (fun b hb _ => hb)
      have oc : Only (fun b => b = ka + 1) w9 (w9.setCell ⟨ka + 1, 0, none⟩ (.slice va2 (i + 1) vc2)) := only1 _ _
      have I7b := unhide HI7
      have d9 := (I7b.has.keep og (fun c => by have := I7b.tb (ka + 1) c; omega))
      have d0 : w9.cell? ⟨ka + 1, 0, none⟩ = some tv := d9.cell 0
      have df := d9.free 0
      have kd9 := d9.lt
      have R9 := ((unhide HR7).keep og (fun k hk c => by
        have h1 := I7b.tb k c
        have h2 := unhide HAl k (by omega)
        rcases hk with hk | hk | hk
        · exact h2.2.1 hk
        · exact h2.2.2.1 hk
        · exact h2.2.2.2 hk)).keep oc (fun k hk c => by
        have c' : k = ka + 1 := c
        have h2 := unhide HAl k (by omega)
        rcases hk with hk | hk | hk
        · exact h2.2.1 hk
        · exact h2.2.2.1 hk
        · exact h2.2.2.2 hk)
      have o9 : Only (fun k => q.S k ∨ k = ka + 1 ∨ lo ≤ k) w2 (w9.setCell ⟨ka + 1, 0, none⟩ (.slice va2 (i + 1) vc2)) := (((unhide HO3).trans ((unhide HO7).mono (T := fun k => q.S k ∨ k = ka + 1 ∨ lo ≤ k) (fun _ _ h => .inl h)) (fun _ _ h => h)).trans (og.mono (T := fun k => q.S k ∨ k = ka + 1 ∨ lo ≤ k) (fun k _ h => .inr (.inr (I7b.tb k h)))) (fun _ _ h => h)).trans (oc.mono (T := fun k => q.S k ∨ k = ka + 1 ∨ lo ≤ k) (fun k _ h => .inr (.inl h))) (fun _ _ h => h)
      have hs9 : lo ≤ (w9.setCell ⟨ka + 1, 0, none⟩ (.slice va2 (i + 1) vc2)).heap.size := by have := og.size; have := oc.size; omega
      have FF := hide (And.intro hP (And.intro R9 (And.intro o9 hs9)))
      rw [← htve] at d0
      clear hP R9 o9 hs9 og oc I7b d9 hown hgrow hwhere hgrow2 hwh2 own1 HPush c0 c1 c2 c3 htve
      go_wp2_with fail
      go_roundw
      case rel => exact ⟨i + 1, l ++ [⟨t, .slice (some ⟨zc, 0, none⟩) cn cn, .slice (some ⟨zb, 0, none⟩) zn zn, us⟩], .slice va2 (i + 1) vc2, by go_num, by omega, by rw [List.length_append, hli]; rfl, (unhide FF).2.2.2, (unhide FF).1, (unhide FF).2.1, (unhide FF).2.2.1⟩
      case measure => simp [intOf]; omega
    · obtain rfl : i = n := by omega
      have a1 : decide ((i : Int) < (i : Int)) = false := decide_eq_false (by omega)
      have hI : ShI lo (ka + 1) D D.length l tv wr := by rw [unhide HnD]; exact I
      obtain ⟨hML, htt, hfr⟩ := hI.done (unhide HG)
      obtain ⟨ta, tcap, htv⟩ := ownsRow_shape I.own
      have hML2 : ML wr (.slice ta l.length tcap) l := by rw [← htv]; exact hML
      have hfr2 : ∀ k, MLm (.slice ta l.length tcap) l k ∨ MLi l k → lo ≤ k := by rw [← htv]; exact hfr
      have d0 : wr.cell? ⟨ka + 1, 0, none⟩ = some (.slice ta l.length tcap) := by rw [← htv]; exact I.has.cell 0
      have kd9 := I.has.lt
      have NA := (unhide HA2).keep o3 (fun c => by
        have h3 := unhide Hlo
        rcases c with c | c | c
        · exact (unhide HAl ka (by omega)).1 c
        · omega
        · omega)
      have nA0 : wr.cell? ⟨ka, 0, none⟩ = some (.slice none 0 0) := NA.cell 0
      have fA0 := NA.free 0
      have kal := NA.lt
      have N9 : Has (wr.setCell ⟨ka, 0, none⟩ (.slice ta l.length tcap)) ka #[.slice ta l.length tcap] 37 := by
        have := NA.setCell 0 (.slice ta l.length tcap)
        simpa using this
      have oc : Only (fun b => b = ka) wr (wr.setCell ⟨ka, 0, none⟩ (.slice ta l.length tcap)) := only1 _ _
      have FF := hide (show SoW q w g x M K D (.returned (.agg #[.slice ta l.length tcap])) (wr.setCell ⟨ka, 0, none⟩ (.slice ta l.length tcap)) from ⟨_, l, rfl, hML2.keep oc (fun k hk c => by have := hfr2 k (.inl hk); have c' : k = ka := c; omega) (fun k hk c => by have := hfr2 k (.inr hk); have c' : k = ka := c; omega), htt, fun k hk => by
        have := hfr2 k hk
        have := unhide Hka
        omega, R3.keep oc (fun k hk c => by
        have c' : k = ka := c
        have h2 := unhide HAl k (by omega)
        rcases hk with hk | hk | hk
        · exact h2.2.1 hk
        · exact h2.2.2.1 hk
        · exact h2.2.2.2 hk), by
        have hk := unhide Hka
        have hl := unhide Hlo
        have sO := (unhide HO2).size
        exact Only.late (C := fun k => ka ≤ k) ((((unhide HO2).mono (T := fun k => q.S k ∨ ka ≤ k) (fun _ _ h => .inl h)).trans (o3.mono (T := fun k => q.S k ∨ ka ≤ k) (fun k _ h => by rcases h with h | h | h; exact .inl h; exact .inr (by omega); exact .inr (by omega))) (fun _ _ h => h)).mono (fun k hlt h => h.elim id (fun c => by omega))) (oc.mono (fun k _ h => by have h' : k = ka := h; omega)) (fun k h => by omega)⟩)
      have HN9 := hide N9
      rw [hli] at d0
      rw [hli] at FF HN9
      clear I R3 o3 hI hML htt hfr NA N9 oc htv hML2 hfr2
      go_wp2_with fail
      exact bodyPost_ret (res1_cell Tryz.results18 _ rfl (run_loadVar_row _ ka 37 37 _ (0, 0) _ (unhide HN9) Tryz.underlying37 rfl (by rw [Tryz.sizeYDB]; rfl))) rfl (unhide FF)
end
end Go.Proofs.Qxb6500414aGreat
