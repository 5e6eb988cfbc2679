/-
  OWN WORK. THE TREE: the real side's state; Get, Root, Free, Commit.
-/
import Derived.Test.Qxb6500417aGreatTTal
import Derived.Test.Qxb6500417aGreatOImg
import Derived.Test.Qxb6500417aGreatOPutW
namespace Go.Proofs.Qxb6500417aGreat
open Go.RowKit Go.PlainAid
set_option linter.unusedSimpArgs false
set_option linter.unusedVariables false

def kindJ (J : Nat → Sl) (i : Nat) : Nat := if i ≠ 0 ∧ liveS (J i) = true then (J i).kd else 0
def cntJ (J : Nat → Sl) (i : Nat) : Nat → Nat
  | 0 => 0
  | n + 1 => cntJ J i n + (if n ≠ 0 ∧ liveS (J n) = true then occ (J n).rws i else 0)
def cntZ (J : Nat → Sl) (i : Nat) : Int := (cntJ J i 49 : Int)
def Rep (ob : Nat → Ob) (J : Nat → Sl) : Prop := ∀ i, In i → (ob i).st = (J i).st ∧ (ob i).kd = (J i).kd ∧ (ob i).dat = (J i).dat
theorem Rep.live {ob : Nat → Ob} {J : Nat → Sl} (h : Rep ob J) {i : Nat} (hi : In i) : liveO (ob i) = liveS (J i) := by
  unfold liveO liveS
  rw [(h i hi).1]
theorem tp_len (l : List En) : (tp l).length ≤ l.length := by
  have h : ∀ ts : List Tp, Can ts → ts.length ≤ (ts.flatMap untop).length := fun ts => by
    induction ts with
    | nil => intro _; simp
    | cons t ts ih =>
      intro hc
      have h1 := ih hc.2.2
      rw [List.flatMap_cons, List.length_append, List.length_cons]
      have h2 : 1 ≤ (untop t).length := by
        have := hc.1
        cases t with
        | f e => simp [untop]
        | d a sub =>
          have : 1 ≤ sub.length := List.length_pos_iff.2 this.2
          simpa [untop] using this
      omega
  have := h (tp l) (tp_canon l)
  rw [tp_flat] at this
  exact this
theorem TreeOk.len {J : Nat → Sl} {s : Sl} (h : TreeOk J s) : s.rws.length ≤ 8 := by
  have h1 := h.rel.len
  have h2 := tp_len s.lst
  have h3 := h.fine.cnt
  omega
theorem encs_bound {l : List Rw} (h : ∀ r ∈ l, WfR r) : (encs l).length ≤ l.length * 15 := by
  induction l with
  | nil => simp [encs]
  | cons a r ih =>
    rw [encs_cons, List.length_append, enc_len, List.length_cons]
    have := ih (fun x hx => h x (by simp [hx]))
    have := (h a (by simp)).n12
    omega
theorem Inv.rows8 {J : Nat → Sl} (h : Inv J) {i : Nat} (hi : In i) (h0 : (J i).st ≠ 0) : (J i).rws.length ≤ 8 := by
  by_cases hk : (J i).kd = 2
  · exact (h.tr i hi h0 hk).len
  · rw [(h.nt i hi h0 hk).2]; simp
theorem Inv.cnt_le {J : Nat → Sl} (h : Inv J) (i : Nat) : ∀ n, n ≤ 49 → cntJ J i n ≤ n * 8
  | 0, _ => by simp [cntJ]
  | n + 1, hn => by
    have ih := Inv.cnt_le h i n (by omega)
    unfold cntJ
    split
    · rename_i hc
      have h8 := h.rows8 (i := n) ⟨by omega, by omega⟩ (liveS_ne hc.2)
      have := occ_le (J n).rws i
      omega
    · omega
theorem Inv.cntZ_le {J : Nat → Sl} (h : Inv J) (i : Nat) : 0 ≤ cntZ J i ∧ cntZ J i ≤ 400 := by
  have := h.cnt_le i 49 (by omega)
  unfold cntZ
  omega
/-- The real side: the tables, the store, the device. -/
structure TS (w : World) (t s d : Nat) (D B : Nat → Nat) (recs : List Rec) (J : Nat → Sl) (rt : Nat) (F : Nat → Prop) : Prop where
  tab : TAt w t s (kindJ J) (cntZ J)
  ex : ∃ ob, OS w s d D B recs ob rt F ∧ Rep ob J
  inv : Inv J
  ts : t ≠ s
  tF : ¬ F t
section
variable {w w' : World} {t s d : Nat} {D B : Nat → Nat} {recs : List Rec} {J : Nat → Sl} {rt : Nat} {F : Nat → Prop}
theorem TS.keep {S : Nat → Prop} (h : TS w t s d D B recs J rt F) (ho : Only S w w') (h1 : ¬ S t) (h2 : ¬ S s) (h3 : ∀ k, F k → ¬ S k) : TS w' t s d D B recs J rt F := by
  obtain ⟨ob, hO, hR⟩ := h.ex
  exact ⟨h.tab.keep ho h1, ⟨ob, hO.keep ho h2 h3, hR⟩, h.inv, h.ts, h.tF⟩
theorem TS.quiet (h : TS w t s d D B recs J rt F) (ho : Only (fun _ => False) w w') : TS w' t s d D B recs J rt F := h.keep ho (fun h => h) (fun h => h) (fun _ _ h => h)
/-- id is live. -/
def liveJ (J : Nat → Sl) (id : Int) : Bool := decide (1 ≤ id ∧ id ≤ 48) && liveS (J id.toNat)
theorem liveJ_nat {J : Nat → Sl} {i : Nat} (hi : In i) : liveJ J (i : Int) = liveS (J i) := by
  unfold liveJ
  have h1 := hi.1
  have h2 := hi.2
  rw [decide_eq_true ⟨by omega, by omega⟩]
  simp
theorem liveJ_in {J : Nat → Sl} {id : Int} (h : liveJ J id = true) : ∃ i : Nat, id = i ∧ In i ∧ liveS (J i) = true := by
  unfold liveJ at h
  simp only [Bool.and_eq_true, decide_eq_true_eq] at h
  refine ⟨id.toNat, by omega, ⟨by omega, by omega⟩, h.2⟩
theorem TS.kindI (h : TS w t s d D B recs J rt F) (id : Int) : kindI (kindJ J) id = liveJ J id := by
  unfold Go.Proofs.Qxb6500417aGreat.kindI liveJ
  by_cases hr : 1 ≤ id ∧ id ≤ 48
  · rw [decide_eq_true hr, Bool.true_and, Bool.true_and]
    have hi : In id.toNat := ⟨by omega, by omega⟩
    unfold kindJ
    cases hl : liveS (J id.toNat) with
    | false => rw [if_neg (by simp)]; rfl
    | true =>
      rw [if_pos ⟨by have := hi.1; omega, rfl⟩]
      have := h.inv.kd id.toNat hi (liveS_ne hl)
      simp
      omega
  · rw [decide_eq_false hr, Bool.false_and, Bool.false_and]
theorem kindJ_live {J : Nat → Sl} {i : Nat} (hi : In i) (hl : liveS (J i) = true) : kindJ J i = (J i).kd := by
  unfold kindJ
  rw [if_pos ⟨by have := hi.1; omega, hl⟩]
theorem TS.live_any (h : TS w t s d D B recs J rt F) (id : Int) :
    Calls Tryz.prog 168 #[.pointer (some ⟨t, 0, none⟩), .int .i64 id] w fun e w' => e = .returned (.bool (liveJ J id)) ∧ w = w' := by
  rw [← h.kindI id]
  exact tlive_any h.tab id
theorem TS.isTree_any (h : TS w t s d D B recs J rt F) (id : Int) :
    Calls Tryz.prog 195 #[.pointer (some ⟨t, 0, none⟩), .int .i64 id] w fun e w' => e = .returned (.int .i64 ((if liveJ J id = false then 6 else if (J id.toNat).kd = 2 then 0 else 3 : Nat) : Int)) ∧ w = w' := by
  have := Go.Proofs.Qxb6500417aGreat.isTree_any h.tab id
  unfold isTreeN at this
  rw [h.kindI id] at this
  refine this.mono ?_
  rintro e w1 ⟨rfl, rfl⟩
  refine ⟨?_, rfl⟩
  cases hl : liveJ J id with
  | false => simp
  | true =>
    obtain ⟨i, rfl, hi, hli⟩ := liveJ_in hl
    rw [Int.toNat_natCast, kindJ_live hi hli]
theorem troot_any (h : TS w t s d D B recs J rt F) :
    Calls Tryz.prog 59 #[.pointer (some ⟨t, 0, none⟩)] w fun e w' => e = .returned (.int .i64 (rt : Int)) ∧ w = w' := by
  obtain ⟨ob, hO, hR⟩ := h.ex
  have C : Calls Tryz.prog 115 #[.pointer (some ⟨s, 0, none⟩)] w fun e w' => e = .returned (.int .i64 (rt : Int)) ∧ w = w' := by
    obtain ⟨⟨tab, hd, us, nf, bk, hs, hi⟩, hv, hf⟩ := hO
    have c := hs.root.1
    go_enter Tryz.func115, Tryz.ntmps115
    go_wp2_with fail
    go_ret
    exact ⟨rfl, rfl⟩
  have C := hide C
  have c0 := h.tab.store.1
  clear h hO hR
  go_enter Tryz.func59, Tryz.ntmps59
  go_wp2_with fail
  refine (unhide C).mono ?_
  rintro e w1 ⟨rfl, rfl⟩
  go_wp2_with fail
  go_ret
  exact ⟨rfl, rfl⟩
def isFreeS (J : Nat → Sl) (i : Nat) : Bool := i != 0 && (J i).st == 0
def frJ (J : Nat → Sl) : Nat := cntTo (isFreeS J) 49
theorem Rep.free {ob : Nat → Ob} {J : Nat → Sl} (h : Rep ob J) : cntF ob = frJ J := by
  unfold cntF frJ
  refine cntTo_congr 49 (fun i hi => ?_)
  unfold isFree isFreeS
  by_cases e : i = 0
  · subst e; rfl
  · rw [(h i ⟨by omega, by omega⟩).1]
theorem tfree_any (h : TS w t s d D B recs J rt F) :
    Calls Tryz.prog 36 #[.pointer (some ⟨t, 0, none⟩)] w fun e w' => e = .returned (.int .i64 (frJ J : Nat)) ∧ w = w' := by
  obtain ⟨ob, hO, hR⟩ := h.ex
  have C : Calls Tryz.prog 70 #[.pointer (some ⟨s, 0, none⟩)] w fun e w' => e = .returned (.int .i64 (frJ J : Nat)) ∧ w = w' := by
    obtain ⟨⟨tab, hd, us, nf, bk, hs, hi⟩, hv, hf⟩ := hO
    have c := hs.nfree.1
    rw [hi.rows.nfree, hR.free] at c
    go_enter Tryz.func70, Tryz.ntmps70
    go_wp2_with fail
    go_ret
    exact ⟨rfl, rfl⟩
  have C := hide C
  have c0 := h.tab.store.1
  clear h hO hR
  generalize frJ J = f at *
  go_enter Tryz.func36, Tryz.ntmps36
  go_wp2_with fail
  refine (unhide C).mono ?_
  rintro e w1 ⟨rfl, rfl⟩
  go_wp2_with fail
  go_ret
  exact ⟨rfl, rfl⟩
end
end Go.Proofs.Qxb6500417aGreat
