/-
  OWN WORK. THE TABLE LAW's MODEL: what a change leaves; CreateIndex, Update.
-/
import Derived.Test.Qxb6500412aGreatMM6
import Derived.Test.Qxb6500412aGreatMP2
namespace Go.Proofs.Qxb6500412aGreat
open Go.RowKit Go.PlainAid
set_option linter.unusedSimpArgs false
set_option linter.unusedVariables false

/-- A type of blocks in which a database may lie: none of the tables' own. -/
def StoT (ty : TypeId) : Prop := 249 ≠ ty ∧ 95 ≠ ty ∧ 149 ≠ ty ∧ 152 ≠ ty
/-- A database of the model in a store's block. -/
structure MDc (ty : TypeId) (w : World) (dk o : Nat) (cs : Array Value) (v : Value) (l : List GE) (D : Db) : Prop where
  sto : StoT ty
  has : Has w dk cs ty
  at_ : cs[o]? = some v
  ml : ML w v l
  tt : l.map (·.t) = D
  ok : DOk D
/-- What a change leaves. -/
def MdP (ty : TypeId) (w : World) (dk o : Nat) (cs : Array Value) (v : Value) (l : List GE) (D' : Db) (z : Int) (x : Ending) (w' : World) : Prop :=
  ∃ (v' : Value) (l' : List GE), x = .returned (.int .i64 z) ∧ MDc ty w' dk o (cs.setIfInBounds o v') v' l' D' ∧ (∀ k, MLm v' l' k → MLm v l k ∨ w.heap.size ≤ k) ∧ (∀ k, MLi l' k → MLi l k ∨ w.heap.size ≤ k) ∧ Only (fun k => k = dk ∨ MLm v l k) w w'
section
variable {ty : TypeId} {w w' : World} {dk o : Nat} {cs : Array Value} {v : Value} {l : List GE} {D : Db}
theorem MDc.db (h : MDc ty w dk o cs v l D) : MDb w dk o v l D := ⟨by rw [h.has.cell]; exact h.at_, h.ml, h.tt, h.ok⟩
theorem MDc.quiet (h : MDc ty w dk o cs v l D) (ho : Only (fun _ => False) w w') : MDc ty w' dk o cs v l D := ⟨h.sto, h.has.keep ho (fun e => e), h.at_, h.ml.quiet ho, h.tt, h.ok⟩
theorem set_same {α : Type} {a : Array α} {i : Nat} {x : α} (h : a[i]? = some x) : a.setIfInBounds i x = a := by
  apply Array.ext_getElem?
  intro j
  rw [Array.getElem?_setIfInBounds]
  by_cases c : i = j
  · subst c
    rw [if_pos rfl, h]
    have := (Array.getElem?_eq_some_iff.mp h).1
    rw [if_pos this]
  · rw [if_neg c]
theorem MDc.dkne (h : MDc ty w dk o cs v l D) : ∀ k, MLm v l k ∨ MLi l k → k ≠ dk := h.ml.neT h.has h.sto.1 h.sto.2.1 h.sto.2.2.1 h.sto.2.2.2
theorem MdP.same {z : Int} (h : MDc ty w dk o cs v l D) (ho : Only (fun _ => False) w w') : MdP ty w dk o cs v l D z (.returned (.int .i64 z)) w' :=
  ⟨v, l, rfl, by rw [set_same h.at_]; exact h.quiet ho, fun k hk => .inl hk, fun k hk => .inl hk, ho.mono (fun _ _ e => e.elim)⟩
theorem MdP.low {D' : Db} {z : Int} {x : Ending} {w1 : World} (o1 : Only (fun _ => False) w w1) (h : MdP ty w1 dk o cs v l D' z x w') : MdP ty w dk o cs v l D' z x w' := by
  obtain ⟨v', l', hx, h1, h2, h3, h4⟩ := h
  have := o1.size
  exact ⟨v', l', hx, h1, fun k hk => (h2 k hk).imp id (fun c => by omega), fun k hk => (h3 k hk).imp id (fun c => by omega), (o1.mono (fun _ _ e => e.elim)).trans h4 (fun _ _ e => e)⟩
/-- A table turned in place. -/
theorem MdP.upd {w0 : World} {i : Nat} {e e' : GE} {b cap : Nat} {t' : Tb} (o0 : Only (fun _ => False) w0 w) (h : MDc ty w dk o cs v l D) (hv : v = .slice (some ⟨b, 0, none⟩) l.length cap) (hi : l[i]? = some e) (G : ML w' (.slice (some ⟨b, 0, none⟩) l.length cap) (l.set i e')) (ht : e'.t = t') (ok : TbOk t') (hn : t'.nm = e.t.nm) (oo : Only (GUp b e) w w') (hm : GEn w0 e e') : MdP ty w0 dk o cs v l (putT t' D) 0 (.returned (.int .i64 0)) w' := by
  subst hv
  have hi' : D[i]? = some e.t := by rw [← h.tt, List.getElem?_map, hi]; rfl
  refine ⟨_, l.set i e', rfl, ⟨h.sto, ?_, ?_, G, ?_, ?_⟩, fun k hk => ?_, fun k hk => ?_, (o0.mono (fun _ _ e => e.elim)).trans oo (fun k _ hk => ?_)⟩
  · rw [set_same h.at_]
    exact h.has.keep oo (fun hk => by
      rcases hk with hk | hk
      · exact h.dkne dk (.inl (.inl (by rw [hk]; rfl))) rfl
      · exact h.dkne dk (.inl (.inr ⟨e, List.mem_of_getElem? hi, hk⟩)) rfl)
  · rw [set_same h.at_]
    exact h.at_
  · rw [putT_set h.ok hi' hn, ← h.tt, List.map_set, ht]
  · rw [putT_set h.ok hi' hn]
    exact h.ok.set hi' ok hn
  · rcases hk with hk | ⟨x, hx, hk⟩
    · exact .inl (.inl hk)
    · rcases List.mem_or_eq_of_mem_set hx with hx | rfl
      · exact .inl (.inr ⟨x, hx, hk⟩)
      · rcases hm.1 k hk with c | c
        · exact .inl (.inr ⟨e, List.mem_of_getElem? hi, c⟩)
        · exact .inr c
  · obtain ⟨x, hx, hk⟩ := hk
    rcases List.mem_or_eq_of_mem_set hx with hx | rfl
    · exact .inl ⟨x, hx, hk⟩
    · rcases hm.2 k hk with c | c
      · exact .inl ⟨e, List.mem_of_getElem? hi, c⟩
      · exact .inr c
  · rcases hk with rfl | hk
    · exact .inr (.inl rfl)
    · exact .inr (.inr ⟨e, List.mem_of_getElem? hi, hk⟩)
theorem onT_yes {nm : ByteArray} {f : Tb → Tb × Int} {t : Tb} (hf : findD D nm = some t) : onT D nm f = (if (f t).2 = 0 then putT (f t).1 D else D, (f t).2) := by
  unfold onT
  rw [hf]
theorem onT_no {nm : ByteArray} {f : Tb → Tb × Int} (hf : findD D nm = none) : onT D nm f = (D, 10) := by
  unfold onT
  rw [hf]
set_option maxRecDepth 100000 in
set_option maxHeartbeats 4000000 in
theorem mdbIndex_any (M : MDc ty w dk o cs v l D) (nm : ByteArray) (col : Int) : Calls Tryz.prog 328 #[.pointer (some ⟨dk, o, none⟩), .string nm, .int .i64 col] w (MdP ty w dk o cs v l (cixD D nm col).1 (cixD D nm col).2) := by
  obtain ⟨D', zz, hDz⟩ : ∃ D' zz, cixD D nm col = (D', zz) := ⟨_, _, rfl⟩
  rw [hDz]
  have HDZ := hide hDz
  have CF := hide (mfind_any M.db.c0 M.db.ml nm)
  have HM := hide M
  have c0 := M.db.c0
  clear M hDz
  go_enter Tryz.func328, Tryz.ntmps328
  go_wp2_with fail
  refine (unhide CF).mono ?_
  rintro x w2 ⟨r, rfl, hr, rfl⟩
  clear CF
  by_cases r0 : r < 0
  · have dr : decide (r < 0) = true := decide_eq_true r0
    have HP := hide (show MdP ty w dk o cs v l D' zz (.returned (.int .i64 10)) w from by
      have h := unhide HDZ
      unfold cixD at h
      rw [onT_no (hr.mno (unhide HM).tt (unhide HM).ok r0)] at h
      cases h
      exact MdP.same (unhide HM) (Only.refl _ _))
    clear hr r0
    go_wp2_with fail
    go_ret
    exact unhide HP
  have dr : decide (r < 0) = false := decide_eq_false r0
  obtain ⟨i, e, rfl, hi, hn, hf, hm⟩ := hr.myes (unhide HM).tt (unhide HM).ok (by omega)
  have HC := hide (show (if (cixR e.t col).2 = 0 then putT (cixR e.t col).1 D else D, (cixR e.t col).2) = (D', zz) from by
    have h := unhide HDZ
    unfold cixD at h
    rw [onT_yes hf] at h
    exact h)
  have HS := hide (fun (z : Int) (z0 : z ≠ 0) (hz : cixR e.t col = (e.t, z)) => show MdP ty w dk o cs v l D' zz (.returned (.int .i64 z)) w from by
    have h := unhide HC
    rw [hz] at h
    simp only [if_neg z0] at h
    cases h
    exact MdP.same (unhide HM) (Only.refl _ _))
  obtain ⟨b, cap, hvx, P2, E2⟩ := (unhide HM).ml.pt hi
  have il : (i : Int) < (l.length : Int) := by have := (List.getElem?_eq_some_iff.mp hi).1; omega
  have h3 := (unhide HM).ml.len
  rw [hvx] at c0
  have p1 := P2.c1
  have p2 := P2.c2
  have p3 := P2.c3
  obtain ⟨ca, cc, hcc⟩ := E2.col.shape
  rw [hcc] at p1
  have fz := gownFree (by have := (unhide HM).ml.own; rw [hvx] at this; exact this) (i * 5 + 3)
  have tok := (unhide HM).ok.tb e.t hm
  have HD := hide (fun (h0 : ¬ (col < 0 ∨ (e.t.cols.length : Int) ≤ col)) (h1 : col ≠ (e.t.pk : Int)) (h2 : ixI e.t.ix < 0) => show MdP ty w dk o cs v l D' zz (.returned (.int .i64 0)) (w.setCell ⟨b, i * 5 + 3, none⟩ (.int .i64 col)) from by
    obtain ⟨c, rfl⟩ : ∃ c : Nat, col = c := ⟨col.toNat, by omega⟩
    have ix0 : e.t.ix = none := by
      cases h : e.t.ix with
      | none => rfl
      | some j => rw [h] at h2; simp [ixI] at h2; omega
    have hcr : cixR e.t (c : Int) = (withI e.t c, 0) := by
      unfold cixR
      rw [if_neg h0, if_neg h1, ix0]
      rfl
    have h := unhide HC
    rw [hcr] at h
    simp only [if_true] at h
    cases h
    have ok : TbOk (withI e.t c) := ⟨tok.nm, tok.cols, fun x hx => by
      have : x = c := by unfold withI at hx; simp at hx; exact hx.symm
      subst this
      exact ⟨by show x < e.t.cols.length; omega, by show x ≠ e.t.pk; omega⟩, tok.row, tok.srt, tok.len⟩
    have G := (unhide HM).ml
    rw [hvx] at G
    obtain ⟨G3, o13⟩ := G.setIx hi (c := c) ((GT.refl _).ok ok)
    exact MdP.upd (Only.refl _ _) (unhide HM) hvx hi G3 rfl ok rfl (o13.mono (fun k _ e => .inl e)) ⟨fun k hk => .inl hk, fun k hk => .inl hk⟩)
  obtain ⟨ln, hln⟩ : ∃ ln, l.length = ln := ⟨_, rfl⟩
  rw [hln] at il h3 c0
  clear P2 E2 hi hn hf hm hcc hr r0 hvx hln tok
  obtain ⟨cn, hcn⟩ : ∃ cn, e.t.cols.length = cn := ⟨_, rfl⟩
  rw [hcn] at p1 HD
  have HCN := hide hcn
  obtain ⟨pk, hpk⟩ : ∃ pk, e.t.pk = pk := ⟨_, rfl⟩
  rw [hpk] at p2 HD
  have HPK := hide hpk
  obtain ⟨ix, hix⟩ : ∃ ix, ixI e.t.ix = ix := ⟨_, rfl⟩
  rw [hix] at p3 HD
  have HIX := hide hix
  clear hcn hpk hix
  by_cases an : col < 0
  · have d1 : decide (col < 0) = true := decide_eq_true an
    have HP := hide (unhide HS 14 (by omega) (by unfold cixR; rw [if_pos (.inl an)]))
    clear an
    go_wp2_with fail
    go_ret
    exact unhide HP
  have d1 : decide (col < 0) = false := decide_eq_false an
  by_cases ac : (cn : Int) ≤ col
  · have d2 : decide (col ≥ (cn : Int)) = true := decide_eq_true ac
    have d2' : decide ((cn : Int) ≤ col) = true := decide_eq_true ac
    have HP := hide (unhide HS 14 (by omega) (by unfold cixR; rw [if_pos (.inr (by rw [unhide HCN]; exact ac))]))
    clear an ac
    go_wp2_with fail
    go_ret
    exact unhide HP
  have d2 : decide (col ≥ (cn : Int)) = false := decide_eq_false ac
  have d2' : decide ((cn : Int) ≤ col) = false := decide_eq_false ac
  by_cases ap : col = (pk : Int)
  · have d3 : (col == (pk : Int)) = true := by simpa using ap
    have HP := hide (unhide HS 18 (by omega) (by unfold cixR; rw [if_neg (by rw [unhide HCN]; omega), if_pos (by rw [unhide HPK]; exact ap)]))
    clear an ac ap
    go_wp2_with fail
    go_ret
    exact unhide HP
  have d3 : (col == (pk : Int)) = false := by simpa using ap
  by_cases ai : ix < 0
  · have d4 : decide (ix ≥ 0) = false := decide_eq_false (by omega)
    have d4' : decide (0 ≤ ix) = false := decide_eq_false (by omega)
    have HP := hide (unhide HD (by omega) ap ai)
    clear an ac ap ai
    go_wp2_with fail
    go_ret
    exact unhide HP
  have d4 : decide (ix ≥ 0) = true := decide_eq_true (by omega)
  have d4' : decide (0 ≤ ix) = true := decide_eq_true (by omega)
  have HP := hide (unhide HS 11 (by omega) (by
    unfold cixR
    rw [if_neg (by rw [unhide HCN]; omega), if_neg (by rw [unhide HPK]; exact ap), if_pos]
    have := unhide HIX
    cases h : e.t.ix with
    | none => rw [h] at this; simp [ixI] at this; omega
    | some j => rfl))
  clear an ac ap ai
  go_wp2_with fail
  go_ret
  exact unhide HP
end
end Go.Proofs.Qxb6500412aGreat
