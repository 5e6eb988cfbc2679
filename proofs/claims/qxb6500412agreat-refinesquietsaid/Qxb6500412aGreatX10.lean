/-
  OWN WORK. TXN: take (written by tools/gen_x10.py).
-/
import Derived.Test.Qxb6500412aGreatX9
namespace Go.Proofs.Qxb6500412aGreat
open Go.RowKit Go.PlainAid
set_option linter.unusedSimpArgs false
set_option linter.unusedVariables false

def schZ : Value := .agg #[.string ⟨#[]⟩, .slice none 0 0, .int .i64 0, .int .i64 0]
def Xs.setU (X : Xs) (i : Nat) (b : Bool) : Xs := { X with us := fun a => if a = i then b else X.us a }
def Xs.setN (X : Xs) (i : Nat) (nm : ByteArray) : Xs := { X with nm := fun a => if a = i then nm else X.nm a }
/-- The lock taken. -/
def Xs.tk (X : Xs) (i s : Nat) (nm : ByteArray) (mode : Int) : Xs := if X.md i s < mode then ((X.setU i true).setN i nm).setM i s mode else (X.setU i true).setN i nm
theorem Xs.tk_w (X : Xs) (i s : Nat) (nm : ByteArray) (mode : Int) : (X.tk i s nm mode).wv = X.wv ∧ (X.tk i s nm mode).ws = X.ws ∧ (X.tk i s nm mode).act = X.act := by
  unfold Xs.tk
  split
  · exact ⟨rfl, rfl, rfl⟩
  · exact ⟨rfl, rfl, rfl⟩
/-- The slot that is taken. -/
def TkI (X : Xs) (s : Int) (nm : ByteArray) (mode : Int) (i : Nat) : Prop := i < 3 ∧ ((SlR X nm i ∧ X.bar i s mode = false) ∨ (SlR X nm (-1) ∧ FsR X i))
/-- Why it is refused. -/
def TkE (X : Xs) (T : List (Tb × Hd)) (s : Int) (nm : ByteArray) (mode z : Int) : Prop := z ≠ 0 ∧ (inTx X s = z ∨ (inTx X s = 0 ∧ z = 10 ∧ ∀ y ∈ T, y.1.nm ≠ nm) ∨ (inTx X s = 0 ∧ (∃ y ∈ T, y.1.nm = nm) ∧ z = 21 ∧ ∃ i : Nat, i < 3 ∧ SlR X nm i ∧ X.bar i s mode = true) ∨ (inTx X s = 0 ∧ (∃ y ∈ T, y.1.nm = nm) ∧ z = 23 ∧ SlR X nm (-1) ∧ FsR X (-1)))
inductive TkP (q : Gnd) (w : World) (g x : Nat) (X : Xs) (op : Bool) (S : Vu) (T : List (Tb × Hd)) (s : Int) (nm : ByteArray) (mode : Int) (e : Ending) (w' : World) : Prop where
  | no (z : Int) (he : e = .returned (.tuple #[schZ, .int .i64 z])) (hz : TkE X T s nm mode z) (hx : XR q w' g x X op S) (ho : Only q.S w w')
  | yes (t : Tb) (hd : Hd) (cv : Value) (i : Nat) (ht : (t, hd) ∈ T) (hn : t.nm = nm) (h0 : inTx X s = 0) (he : e = .returned (.tuple #[.agg (scC t.nm cv (t.pk : Int) (ixI t.ix)), .int .i64 0])) (hc : OwnC w' cv t.cols) (hw : Newer w cv) (hi : TkI X s nm mode i) (hx : XR q w' g x (X.tk i s.toNat nm mode) op S) (ho : Only (fun k => q.S k ∨ k = g) w w')
section
variable {q : Gnd} {w w' : World} {g x : Nat} {X : Xs} {op : Bool} {S : Vu} {T : List (Tb × Hd)}
theorem XH.setU {t i : Nat} (h : XH w g t X) (hi : i < 3) (b : Bool) : XH (w.setCell ⟨g, 5 + i * 6, none⟩ (.bool b)) g t (X.setU i b) := by
  refine h.put (fun k hk => ?_)
  unfold xcell
  by_cases e : k = 5 + i * 6
  · subst e
    rw [if_pos rfl, if_neg (by omega), if_neg (by omega), if_pos (by omega), show (5 + i * 6 - 5) / 6 = i by omega, show (5 + i * 6 - 5) % 6 = 0 by omega]
    unfold slC
    rw [if_pos rfl]
    show _ = Value.bool (if i = i then b else X.us i)
    rw [if_pos rfl]
  · rw [if_neg e]
    by_cases e0 : k = 0
    · rw [if_pos e0, if_pos e0]
    · rw [if_neg e0, if_neg e0]
      by_cases e1 : k < 5
      · rw [if_pos e1, if_pos e1]; rfl
      · rw [if_neg e1, if_neg e1]
        by_cases e2 : k < 23
        · rw [if_pos e2, if_pos e2]
          unfold slC
          by_cases f0 : (k - 5) % 6 = 0
          · rw [if_pos f0, if_pos f0]
            show _ = Value.bool (if (k - 5) / 6 = i then b else X.us ((k - 5) / 6))
            rw [if_neg (by omega)]
          · rw [if_neg f0, if_neg f0]; rfl
        · rw [if_neg e2, if_neg e2]; rfl
theorem XH.setN {t i : Nat} (h : XH w g t X) (hi : i < 3) (nm : ByteArray) : XH (w.setCell ⟨g, 5 + i * 6 + 1, none⟩ (.string nm)) g t (X.setN i nm) := by
  refine h.put (fun k hk => ?_)
  unfold xcell
  by_cases e : k = 5 + i * 6 + 1
  · subst e
    rw [if_pos rfl, if_neg (by omega), if_neg (by omega), if_pos (by omega), show (5 + i * 6 + 1 - 5) / 6 = i by omega, show (5 + i * 6 + 1 - 5) % 6 = 1 by omega]
    unfold slC
    rw [if_neg (by omega), if_pos rfl]
    show _ = Value.string (if i = i then nm else X.nm i)
    rw [if_pos rfl]
  · rw [if_neg e]
    by_cases e0 : k = 0
    · rw [if_pos e0, if_pos e0]
    · rw [if_neg e0, if_neg e0]
      by_cases e1 : k < 5
      · rw [if_pos e1, if_pos e1]; rfl
      · rw [if_neg e1, if_neg e1]
        by_cases e2 : k < 23
        · rw [if_pos e2, if_pos e2]
          unfold slC
          by_cases f0 : (k - 5) % 6 = 0
          · rw [if_pos f0, if_pos f0]; rfl
          · rw [if_neg f0, if_neg f0]
            by_cases f1 : (k - 5) % 6 = 1
            · rw [if_pos f1, if_pos f1]
              show _ = Value.string (if (k - 5) / 6 = i then nm else X.nm ((k - 5) / 6))
              rw [if_neg (by omega)]
            · rw [if_neg f1, if_neg f1]; rfl
        · rw [if_neg e2, if_neg e2]; rfl
/-- The manager's own block turned. -/
theorem XR.own {Y : Xs} (h : XR q w g x X op S) (hX : XH w' g x Y) (ho : Only (fun k => k = g) w w') (h1 : Y.wv = X.wv) (h2 : Y.ws = X.ws) : XR q w' g x Y op S := by
  refine ⟨h.st.keep ho (fun k hk e => ?_), h.xm.own hX ho h1 h2, fun k hk => h.off k ?_⟩
  · have e' : k = g := e
    rcases hk with hk | hk
    · exact (h.off g (.inl rfl)).1 (by rw [← e']; exact hk)
    · exact (h.off g (.inl rfl)).2 (by rw [← e']; exact hk)
  · rcases hk with hk | ⟨s, hs, hk⟩ | ⟨s, hs, hk⟩
    · exact .inl hk
    · exact .inr (.inl ⟨s, hs, by rw [h1] at hk; exact hk⟩)
    · exact .inr (.inr ⟨s, hs, by rw [h2] at hk; exact hk⟩)
theorem find_row {nm : ByteArray} : (∀ y ∈ T, y.1.nm ≠ nm) ∨ ∃ t hd, (t, hd) ∈ T ∧ t.nm = nm := by
  by_cases h : ∃ y ∈ T, y.1.nm = nm
  · obtain ⟨⟨t, hd⟩, hy, e⟩ := h
    exact .inr ⟨t, hd, hy, e⟩
  · exact .inl (fun y hy e => h ⟨y, hy, e⟩)
/-- All its blocks. -/
def Xs.bl (X : Xs) (q : Gnd) (g x k : Nat) : Prop := q.A k ∨ k = x ∨ k = g ∨ X.M k ∨ X.I k
theorem XR.blt (h : XR q w g x X op S) {k : Nat} (hk : X.bl q g x k) : k < w.heap.size := by
  rcases hk with hk | hk | hk
  · exact h.st.fv.Alt k hk
  · have := h.st.has.lt; omega
  · exact h.xm.lt k hk
theorem XR.far {B : Nat → Prop} (h : XR q w g x X op S) (ho : Only B w w') (hB : ∀ k, X.bl q g x k → ¬ B k) : XR q w' g x X op S :=
  ⟨h.st.keep ho (fun k hk => hB k (hk.elim .inl (fun e => .inr (.inl e)))), h.xm.keep ho (hB g (.inr (.inr (.inl rfl)))) (fun k hk => hB k (.inr (.inr (.inr (.inl hk))))) (fun k hk => hB k (.inr (.inr (.inr (.inr hk))))), h.off⟩
set_option maxRecDepth 100000 in
set_option maxHeartbeats 8000000 in
theorem xtake_any (H : XR q w g x X op S) (L : Lay S T) (s : Int) (nm : ByteArray) (mode : Int) : Calls Tryz.prog 310 #[.pointer (some ⟨g, 0, none⟩), .int .i64 s, .string nm, .int .i64 mode] w (TkP q w g x X op S T s nm mode) := by
  have o0 : Only (fun _ => False) w (w.alloc (.cells #[.string ⟨#[]⟩, .slice none 0 0, .int .i64 0, .int .i64 0] 79)) := (Only.refl _ w).alloc _
  have N0 := Has.new w #[.string ⟨#[]⟩, .slice none 0 0, .int .i64 0, .int .i64 0] 79
  have H0 := H.quiet o0
  have hS0 : ∀ k, w.heap.size ≤ k → ¬ q.S k := fun k hk => H.st.new hk
  have C1 := hide (xinTxn_any H0.xm.has s)
  have HX := hide H0
  have HO := hide o0
  have HN := hide N0
  have HS := hide hS0
  have hgw : g < w.heap.size := H.xm.has.lt
  have HK0 : Hid (∀ k, X.bl q g x k → ¬ (k = w.heap.size)) := hide (fun k hk e => by have := H.blt hk; omega)
  clear H H0 o0 N0 hS0
  go_enter Tryz.func310, Tryz.ntmps310
  go_upto_region 1 with fail
  generalize w.alloc (.cells #[.string ⟨#[]⟩, .slice none 0 0, .int .i64 0, .int .i64 0] 79) = w0 at *
  generalize hkr : w.heap.size = kr at *
  have s0 := (unhide HO).size
  go_wp2_with fail
  refine (unhide C1).mono ?_
  rintro e w1 ⟨rfl, rfl⟩
  clear C1
  by_cases h0 : inTx X s = 0
  · rw [h0]
    have hIn := hide h0
    obtain ⟨hs, _⟩ := inTx_ok h0
    obtain ⟨sn, rfl⟩ : ∃ n : Nat, s = n := ⟨s.toNat, by have := hs.1; omega⟩
    have hsn : sn < 4 := by have := hs.2; omega
    have s4 : (sn : Int) < 4 := by omega
    clear h0 hs
    have c0 := (unhide HX).xm.has.c0
    have gl := (unhide HX).xm.has.lt
    rcases find_row (T := T) (nm := nm) with hno | ⟨t, hd, ht, hn⟩
    · have C2 := hide (eschemaOf_no (unhide HX).st L hno)
      unfold scN at C2
      have Hno := hide hno
      clear hno
      go_wp2_with fail
      refine (unhide C2).mono ?_
      rintro e w2 ⟨rfl, h2, o2⟩
      have o3 : Only (fun _ => False) w2 (w2.alloc (.cells #[.string ⟨#[]⟩, .slice none 0 0, .int .i64 0, .int .i64 (-1)] 79)) := (Only.refl _ w2).alloc _
      have HX3 := hide (((unhide HX).turn h2 o2).quiet o3)
      have HN3 := hide (((unhide HN).keep o2 (unhide HS kr (by omega))).keep o3 (fun h => h))
      have HO3 := hide ((((unhide HO).mono (T := q.S) (fun _ _ h => h.elim)).trans o2 (fun _ _ h => h)).trans (o3.mono (T := q.S) (fun _ _ h => h.elim)) (fun _ _ h => h))
      clear C2 h2 o2 o3 c0 gl
      go_upto_region 5 with fail
      generalize w2.alloc (.cells #[.string ⟨#[]⟩, .slice none 0 0, .int .i64 0, .int .i64 (-1)] 79) = w3 at *
      have NK := unhide HN3
      have r0 := NK.cell 0
      have rz0 := NK.free 0
      have r1 := NK.cell 1
      have rz1 := NK.free 1
      have r2 := NK.cell 2
      have rz2 := NK.free 2
      have r3 := NK.cell 3
      have rz3 := NK.free 3
      simp only [List.getElem?_toArray, List.getElem?_cons_zero, List.getElem?_cons_succ] at r0 r1 r2 r3
      have rl := NK.lt
      have N4 : Has ((((w3.setCell ⟨kr, 0, none⟩ (.string ⟨#[]⟩)).setCell ⟨kr, 1, none⟩ (.slice none 0 0)).setCell ⟨kr, 2, none⟩ (.int .i64 0)).setCell ⟨kr, 3, none⟩ (.int .i64 0)) kr #[.string ⟨#[]⟩, .slice none 0 0, .int .i64 0, .int .i64 0] 79 := (((NK.setCell 0 (.string ⟨#[]⟩)).setCell 1 (.slice none 0 0)).setCell 2 (.int .i64 0)).setCell 3 (.int .i64 0)
      have o4 : Only (fun y => y = kr) w3 ((((w3.setCell ⟨kr, 0, none⟩ (.string ⟨#[]⟩)).setCell ⟨kr, 1, none⟩ (.slice none 0 0)).setCell ⟨kr, 2, none⟩ (.int .i64 0)).setCell ⟨kr, 3, none⟩ (.int .i64 0)) := (((only1 (p := kr) _ _).trans (only1 (p := kr) _ _) (fun _ _ h => h)).trans (only1 (p := kr) _ _) (fun _ _ h => h)).trans (only1 (p := kr) _ _) (fun _ _ h => h)
      have q0 : ((((w3.setCell ⟨kr, 0, none⟩ (.string ⟨#[]⟩)).setCell ⟨kr, 1, none⟩ (.slice none 0 0)).setCell ⟨kr, 2, none⟩ (.int .i64 0)).setCell ⟨kr, 3, none⟩ (.int .i64 0)).cell? ⟨kr, 0, none⟩ = some (.string ⟨#[]⟩) := N4.cell 0
      have q1 : ((((w3.setCell ⟨kr, 0, none⟩ (.string ⟨#[]⟩)).setCell ⟨kr, 1, none⟩ (.slice none 0 0)).setCell ⟨kr, 2, none⟩ (.int .i64 0)).setCell ⟨kr, 3, none⟩ (.int .i64 0)).cell? ⟨kr, 1, none⟩ = some (.slice none 0 0) := N4.cell 1
      have q2 : ((((w3.setCell ⟨kr, 0, none⟩ (.string ⟨#[]⟩)).setCell ⟨kr, 1, none⟩ (.slice none 0 0)).setCell ⟨kr, 2, none⟩ (.int .i64 0)).setCell ⟨kr, 3, none⟩ (.int .i64 0)).cell? ⟨kr, 2, none⟩ = some (.int .i64 0) := N4.cell 2
      have q3 : ((((w3.setCell ⟨kr, 0, none⟩ (.string ⟨#[]⟩)).setCell ⟨kr, 1, none⟩ (.slice none 0 0)).setCell ⟨kr, 2, none⟩ (.int .i64 0)).setCell ⟨kr, 3, none⟩ (.int .i64 0)).cell? ⟨kr, 3, none⟩ = some (.int .i64 0) := N4.cell 3
      have FF := hide (show TkP q w g x X op S T sn nm mode (.returned (.tuple #[schZ, .int .i64 10])) ((((w3.setCell ⟨kr, 0, none⟩ (.string ⟨#[]⟩)).setCell ⟨kr, 1, none⟩ (.slice none 0 0)).setCell ⟨kr, 2, none⟩ (.int .i64 0)).setCell ⟨kr, 3, none⟩ (.int .i64 0)) from .no 10 rfl ⟨by omega, .inr (.inl ⟨unhide hIn, rfl, unhide Hno⟩)⟩ ((unhide HX3).far o4 (unhide HK0)) ((unhide HO3).trans o4 (fun y hy e => by have e' : y = kr := e; omega)))
      clear NK N4 o4
      go_wp2_with fail
      exact bodyPost_ret (v := .tuple #[.agg #[.string ⟨#[]⟩, .slice none 0 0, .int .i64 0, .int .i64 0], .int .i64 10]) (by simp [results, Tryz.results310, go_sem, q0, q1, q2, q3]) rfl (unhide FF)
    · subst hn
      have C2 := eschemaOf_yes (unhide HX).st L ht
      unfold scC at C2
      have C2 := hide C2
      go_wp2_with fail
      refine (unhide C2).mono ?_
      rintro e w2 ⟨cv, rfl, hcv, hnew, h2, o2⟩
      obtain ⟨ca, cc, rfl⟩ := hcv.shape
      obtain ⟨cn, hcn⟩ : ∃ n, t.cols.length = n := ⟨_, rfl⟩
      rw [hcn] at hcv hnew ⊢
      have s2 := o2.size
      have o3 : Only (fun _ => False) w2 (w2.alloc (.cells #[.string t.nm, .slice ca cn cc, .int .i64 (t.pk : Int), .int .i64 (ixI t.ix)] 79)) := (Only.refl _ w2).alloc _
      have HX3 := hide (((unhide HX).turn h2 o2).quiet o3)
      have HN3 := hide (((unhide HN).keep o2 (unhide HS kr (by omega))).keep o3 (fun h => h))
      have hD3 := Has.new w2 #[.string t.nm, .slice ca cn cc, .int .i64 (t.pk : Int), .int .i64 (ixI t.ix)] 79
      have HO3 := hide ((((unhide HO).mono (T := q.S) (fun _ _ h => h.elim)).trans o2 (fun _ _ h => h)).trans (o3.mono (T := q.S) (fun _ _ h => h.elim)) (fun _ _ h => h))
      have HC3 := hide (hcv.keep o3 (fun _ _ h => h))
      have HCn : Hid (∀ k, (Value.slice ca cn cc).ownBlock = some k → w0.heap.size ≤ k) := hide hnew
      have HD3 := hide hD3
      have hN0 := (unhide HN).lt
      have C3 := hide (xslotOf_any (unhide HX3).xm.has t.nm)
      clear C2 h2 o2 o3 c0 gl hcv hnew hD3 hcn
      go_upto_region 5 with fail
      generalize w2.alloc (.cells #[.string t.nm, .slice ca cn cc, .int .i64 (t.pk : Int), .int .i64 (ixI t.ix)] 79) = w3 at *
      generalize hkd : w2.heap.size = kd at *
      go_wp2_with fail
      refine (unhide C3).mono ?_
      rintro e w3' ⟨r, rfl, hr, rfl⟩
      have HR := hide hr
      clear C3
      rcases hr with ⟨rfl, hno⟩ | ⟨i, hi, rfl, _, _⟩
      · clear hno
        have C4 := hide (xfreeSlot_any (unhide HX3).xm.has)
        go_wp2_with fail
        refine (unhide C4).mono ?_
        rintro e w3' ⟨r, rfl, hr, rfl⟩
        have HFr := hide hr
        clear C4
        rcases hr with ⟨rfl, hno⟩ | ⟨i, hi, rfl, hus⟩
        · clear hno
          have NK := unhide HN3
          have r0 := NK.cell 0
          have rz0 := NK.free 0
          have r1 := NK.cell 1
          have rz1 := NK.free 1
          have r2 := NK.cell 2
          have rz2 := NK.free 2
          have r3 := NK.cell 3
          have rz3 := NK.free 3
          simp only [List.getElem?_toArray, List.getElem?_cons_zero, List.getElem?_cons_succ] at r0 r1 r2 r3
          have rl := NK.lt
          have N4 : Has ((((w3.setCell ⟨kr, 0, none⟩ (.string ⟨#[]⟩)).setCell ⟨kr, 1, none⟩ (.slice none 0 0)).setCell ⟨kr, 2, none⟩ (.int .i64 0)).setCell ⟨kr, 3, none⟩ (.int .i64 0)) kr #[.string ⟨#[]⟩, .slice none 0 0, .int .i64 0, .int .i64 0] 79 := (((NK.setCell 0 (.string ⟨#[]⟩)).setCell 1 (.slice none 0 0)).setCell 2 (.int .i64 0)).setCell 3 (.int .i64 0)
          have o4 : Only (fun y => y = kr) w3 ((((w3.setCell ⟨kr, 0, none⟩ (.string ⟨#[]⟩)).setCell ⟨kr, 1, none⟩ (.slice none 0 0)).setCell ⟨kr, 2, none⟩ (.int .i64 0)).setCell ⟨kr, 3, none⟩ (.int .i64 0)) := (((only1 (p := kr) _ _).trans (only1 (p := kr) _ _) (fun _ _ h => h)).trans (only1 (p := kr) _ _) (fun _ _ h => h)).trans (only1 (p := kr) _ _) (fun _ _ h => h)
          have q0 : ((((w3.setCell ⟨kr, 0, none⟩ (.string ⟨#[]⟩)).setCell ⟨kr, 1, none⟩ (.slice none 0 0)).setCell ⟨kr, 2, none⟩ (.int .i64 0)).setCell ⟨kr, 3, none⟩ (.int .i64 0)).cell? ⟨kr, 0, none⟩ = some (.string ⟨#[]⟩) := N4.cell 0
          have q1 : ((((w3.setCell ⟨kr, 0, none⟩ (.string ⟨#[]⟩)).setCell ⟨kr, 1, none⟩ (.slice none 0 0)).setCell ⟨kr, 2, none⟩ (.int .i64 0)).setCell ⟨kr, 3, none⟩ (.int .i64 0)).cell? ⟨kr, 1, none⟩ = some (.slice none 0 0) := N4.cell 1
          have q2 : ((((w3.setCell ⟨kr, 0, none⟩ (.string ⟨#[]⟩)).setCell ⟨kr, 1, none⟩ (.slice none 0 0)).setCell ⟨kr, 2, none⟩ (.int .i64 0)).setCell ⟨kr, 3, none⟩ (.int .i64 0)).cell? ⟨kr, 2, none⟩ = some (.int .i64 0) := N4.cell 2
          have q3 : ((((w3.setCell ⟨kr, 0, none⟩ (.string ⟨#[]⟩)).setCell ⟨kr, 1, none⟩ (.slice none 0 0)).setCell ⟨kr, 2, none⟩ (.int .i64 0)).setCell ⟨kr, 3, none⟩ (.int .i64 0)).cell? ⟨kr, 3, none⟩ = some (.int .i64 0) := N4.cell 3
          have FF := hide (show TkP q w g x X op S T sn t.nm mode (.returned (.tuple #[schZ, .int .i64 23])) ((((w3.setCell ⟨kr, 0, none⟩ (.string ⟨#[]⟩)).setCell ⟨kr, 1, none⟩ (.slice none 0 0)).setCell ⟨kr, 2, none⟩ (.int .i64 0)).setCell ⟨kr, 3, none⟩ (.int .i64 0)) from .no 23 rfl ⟨by omega, .inr (.inr (.inr ⟨unhide hIn, ⟨_, ht, rfl⟩, rfl, unhide HR, unhide HFr⟩))⟩ ((unhide HX3).far o4 (unhide HK0)) ((unhide HO3).trans o4 (fun y hy e => by have e' : y = kr := e; omega)))
          clear NK N4 o4
          go_wp2_with fail
          exact bodyPost_ret (v := .tuple #[.agg #[.string ⟨#[]⟩, .slice none 0 0, .int .i64 0, .int .i64 0], .int .i64 23]) (by simp [results, Tryz.results310, go_sem, q0, q1, q2, q3]) rfl (unhide FF)
        · clear hus
          have hTk : TkI X sn t.nm mode i := ⟨hi, .inr ⟨unhide HR, unhide HFr⟩⟩
          have HTk := hide hTk
          have i3 : (i : Int) < 3 := by omega
          have i0 : decide ((i : Int) < 0) = false := decide_eq_false (by omega)
          have d0 := (unhide HX3).xm.has.used hi
          have d1 := (unhide HX3).xm.has.name hi
          have f0 := (unhide HX3).xm.has.fr (5 + i * 6)
          have f1 := (unhide HX3).xm.has.fr (5 + i * 6 + 1)
          have gl3 := (unhide HX3).xm.has.lt
          have HX4 := hide ((((unhide HX3).xm.has.setU hi true).setN hi t.nm))
          have HO4 : Hid (Only (fun k => k = g) w3 ((w3.setCell ⟨g, 5 + i * 6, none⟩ (.bool true)).setCell ⟨g, 5 + i * 6 + 1, none⟩ (.string t.nm))) := hide ((only1 (p := g) _ _).trans (only1 (p := g) _ _) (fun _ _ h => h))
          obtain ⟨b0, hb0⟩ : ∃ b : Bool, X.us i = b := ⟨_, rfl⟩
          obtain ⟨b1, hb1⟩ : ∃ b, X.nm i = b := ⟨_, rfl⟩
          rw [hb0] at d0
          rw [hb1] at d1
          clear hTk hb0 hb1
          go_upto_region 16 with fail
          generalize ((w3.setCell ⟨g, 5 + i * 6, none⟩ (.bool true)).setCell ⟨g, 5 + i * 6 + 1, none⟩ (.string t.nm)) = w4 at *
          clear d0 d1 f0 f1 gl3
          have m0 : w4.cell? ⟨g, 5 + i * 6 + 2 + sn, none⟩ = some (.int .i64 (X.md i sn)) := (unhide HX4).mode hi hsn
          have mf := (unhide HX4).fr (5 + i * 6 + 2 + sn)
          have gl4 := (unhide HX4).lt
          have hTw := Xs.tk_w X i sn t.nm mode
          have HTw := hide hTw
          obtain ⟨md, hmd⟩ : ∃ z, X.md i sn = z := ⟨_, rfl⟩
          rw [hmd] at m0
          clear hTw
          by_cases hm : md < mode
          · have e1 : decide (mode > md) = true := decide_eq_true hm
            have e2 : decide (md < mode) = true := decide_eq_true hm
            have HX5 := hide (show XH (w4.setCell ⟨g, 5 + i * 6 + 2 + sn, none⟩ (.int .i64 mode)) g x (X.tk i sn t.nm mode) from by
              unfold Xs.tk
              rw [hmd, if_pos hm]
              exact (unhide HX4).setM hi hsn mode)
            have HO5 : Hid (Only (fun k => k = g) w3 (w4.setCell ⟨g, 5 + i * 6 + 2 + sn, none⟩ (.int .i64 mode))) := hide ((unhide HO4).trans (only1 (p := g) _ _) (fun _ _ h => h))
            clear hmd hm
            go_upto_region 18 with fail
            generalize w4.setCell ⟨g, 5 + i * 6 + 2 + sn, none⟩ (.int .i64 mode) = w5 at *
            clear m0 mf gl4 e1 e2
            have ND := (unhide HD3).keep (unhide HO5) (fun e => by have e' : kd = g := e; omega)
            have k0 : w5.cell? ⟨kd, 0, none⟩ = some (.string t.nm) := ND.cell 0
            have k1 : w5.cell? ⟨kd, 1, none⟩ = some (.slice ca cn cc) := ND.cell 1
            have k2 : w5.cell? ⟨kd, 2, none⟩ = some (.int .i64 (t.pk : Int)) := ND.cell 2
            have k3 : w5.cell? ⟨kd, 3, none⟩ = some (.int .i64 (ixI t.ix)) := ND.cell 3
            have kdl := ND.lt
            have HNF := hide ((unhide HN3).keep (unhide HO5) (fun e => by have e' : kr = g := e; omega))
            clear ND
            have NK := unhide HNF
            have r0 := NK.cell 0
            have rz0 := NK.free 0
            have r1 := NK.cell 1
            have rz1 := NK.free 1
            have r2 := NK.cell 2
            have rz2 := NK.free 2
            have r3 := NK.cell 3
            have rz3 := NK.free 3
            simp only [List.getElem?_toArray, List.getElem?_cons_zero, List.getElem?_cons_succ] at r0 r1 r2 r3
            have rl := NK.lt
            have N4 : Has ((((w5.setCell ⟨kr, 0, none⟩ (.string t.nm)).setCell ⟨kr, 1, none⟩ (.slice ca cn cc)).setCell ⟨kr, 2, none⟩ (.int .i64 (t.pk : Int))).setCell ⟨kr, 3, none⟩ (.int .i64 (ixI t.ix))) kr #[.string t.nm, .slice ca cn cc, .int .i64 (t.pk : Int), .int .i64 (ixI t.ix)] 79 := (((NK.setCell 0 (.string t.nm)).setCell 1 (.slice ca cn cc)).setCell 2 (.int .i64 (t.pk : Int))).setCell 3 (.int .i64 (ixI t.ix))
            have o4 : Only (fun y => y = kr) w5 ((((w5.setCell ⟨kr, 0, none⟩ (.string t.nm)).setCell ⟨kr, 1, none⟩ (.slice ca cn cc)).setCell ⟨kr, 2, none⟩ (.int .i64 (t.pk : Int))).setCell ⟨kr, 3, none⟩ (.int .i64 (ixI t.ix))) := (((only1 (p := kr) _ _).trans (only1 (p := kr) _ _) (fun _ _ h => h)).trans (only1 (p := kr) _ _) (fun _ _ h => h)).trans (only1 (p := kr) _ _) (fun _ _ h => h)
            have q0 : ((((w5.setCell ⟨kr, 0, none⟩ (.string t.nm)).setCell ⟨kr, 1, none⟩ (.slice ca cn cc)).setCell ⟨kr, 2, none⟩ (.int .i64 (t.pk : Int))).setCell ⟨kr, 3, none⟩ (.int .i64 (ixI t.ix))).cell? ⟨kr, 0, none⟩ = some (.string t.nm) := N4.cell 0
            have q1 : ((((w5.setCell ⟨kr, 0, none⟩ (.string t.nm)).setCell ⟨kr, 1, none⟩ (.slice ca cn cc)).setCell ⟨kr, 2, none⟩ (.int .i64 (t.pk : Int))).setCell ⟨kr, 3, none⟩ (.int .i64 (ixI t.ix))).cell? ⟨kr, 1, none⟩ = some (.slice ca cn cc) := N4.cell 1
            have q2 : ((((w5.setCell ⟨kr, 0, none⟩ (.string t.nm)).setCell ⟨kr, 1, none⟩ (.slice ca cn cc)).setCell ⟨kr, 2, none⟩ (.int .i64 (t.pk : Int))).setCell ⟨kr, 3, none⟩ (.int .i64 (ixI t.ix))).cell? ⟨kr, 2, none⟩ = some (.int .i64 (t.pk : Int)) := N4.cell 2
            have q3 : ((((w5.setCell ⟨kr, 0, none⟩ (.string t.nm)).setCell ⟨kr, 1, none⟩ (.slice ca cn cc)).setCell ⟨kr, 2, none⟩ (.int .i64 (t.pk : Int))).setCell ⟨kr, 3, none⟩ (.int .i64 (ixI t.ix))).cell? ⟨kr, 3, none⟩ = some (.int .i64 (ixI t.ix)) := N4.cell 3
            have FF := hide (show TkP q w g x X op S T sn t.nm mode (.returned (.tuple #[.agg (scC t.nm (.slice ca cn cc) (t.pk : Int) (ixI t.ix)), .int .i64 0])) ((((w5.setCell ⟨kr, 0, none⟩ (.string t.nm)).setCell ⟨kr, 1, none⟩ (.slice ca cn cc)).setCell ⟨kr, 2, none⟩ (.int .i64 (t.pk : Int))).setCell ⟨kr, 3, none⟩ (.int .i64 (ixI t.ix))) from .yes t hd (.slice ca cn cc) i ht rfl (unhide hIn) rfl (((unhide HC3).keep (unhide HO5) (fun k hk e => by have := unhide HCn k hk; have e' : k = g := e; omega)).keep o4 (fun k hk e => by have := unhide HCn k hk; have e' : k = kr := e; omega)) (fun k hk => by have := unhide HCn k hk; omega) (unhide HTk) (((unhide HX3).own (unhide HX5) (unhide HO5) (unhide HTw).1 (unhide HTw).2.1).far o4 (fun k hk e => unhide HK0 k (by rcases hk with h | h | h | ⟨a, b, h⟩ | ⟨a, b, h⟩; exact .inl h; exact .inr (.inl h); exact .inr (.inr (.inl h)); exact .inr (.inr (.inr (.inl ⟨a, b, by rw [(unhide HTw).1] at h; exact h⟩))); exact .inr (.inr (.inr (.inr ⟨a, b, by rw [(unhide HTw).2.1] at h; exact h⟩)))) e)) ((((unhide HO3).mono (T := fun k => q.S k ∨ k = g) (fun _ _ h => .inl h)).trans (unhide HO5) (fun k _ e => .inr e)).trans o4 (fun y hy e => by have e' : y = kr := e; omega)))
            clear NK N4 o4
            go_wp2_with fail
            exact bodyPost_ret (v := .tuple #[.agg #[.string t.nm, .slice ca cn cc, .int .i64 (t.pk : Int), .int .i64 (ixI t.ix)], .int .i64 0]) (by simp [results, Tryz.results310, go_sem, q0, q1, q2, q3]) rfl (unhide FF)
          · have e1 : decide (mode > md) = false := decide_eq_false hm
            have e2 : decide (md < mode) = false := decide_eq_false hm
            have HX5 := hide (show XH w4 g x (X.tk i sn t.nm mode) from by
              unfold Xs.tk
              rw [hmd, if_neg hm]
              exact unhide HX4)
            have HO5 := HO4
            clear hmd hm
            go_upto_region 18 with fail
            clear m0 mf gl4 e1 e2
            have ND := (unhide HD3).keep (unhide HO5) (fun e => by have e' : kd = g := e; omega)
            have k0 : w4.cell? ⟨kd, 0, none⟩ = some (.string t.nm) := ND.cell 0
            have k1 : w4.cell? ⟨kd, 1, none⟩ = some (.slice ca cn cc) := ND.cell 1
            have k2 : w4.cell? ⟨kd, 2, none⟩ = some (.int .i64 (t.pk : Int)) := ND.cell 2
            have k3 : w4.cell? ⟨kd, 3, none⟩ = some (.int .i64 (ixI t.ix)) := ND.cell 3
            have kdl := ND.lt
            have HNF := hide ((unhide HN3).keep (unhide HO5) (fun e => by have e' : kr = g := e; omega))
            clear ND
            have NK := unhide HNF
            have r0 := NK.cell 0
            have rz0 := NK.free 0
            have r1 := NK.cell 1
            have rz1 := NK.free 1
            have r2 := NK.cell 2
            have rz2 := NK.free 2
            have r3 := NK.cell 3
            have rz3 := NK.free 3
            simp only [List.getElem?_toArray, List.getElem?_cons_zero, List.getElem?_cons_succ] at r0 r1 r2 r3
            have rl := NK.lt
            have N4 : Has ((((w4.setCell ⟨kr, 0, none⟩ (.string t.nm)).setCell ⟨kr, 1, none⟩ (.slice ca cn cc)).setCell ⟨kr, 2, none⟩ (.int .i64 (t.pk : Int))).setCell ⟨kr, 3, none⟩ (.int .i64 (ixI t.ix))) kr #[.string t.nm, .slice ca cn cc, .int .i64 (t.pk : Int), .int .i64 (ixI t.ix)] 79 := (((NK.setCell 0 (.string t.nm)).setCell 1 (.slice ca cn cc)).setCell 2 (.int .i64 (t.pk : Int))).setCell 3 (.int .i64 (ixI t.ix))
            have o4 : Only (fun y => y = kr) w4 ((((w4.setCell ⟨kr, 0, none⟩ (.string t.nm)).setCell ⟨kr, 1, none⟩ (.slice ca cn cc)).setCell ⟨kr, 2, none⟩ (.int .i64 (t.pk : Int))).setCell ⟨kr, 3, none⟩ (.int .i64 (ixI t.ix))) := (((only1 (p := kr) _ _).trans (only1 (p := kr) _ _) (fun _ _ h => h)).trans (only1 (p := kr) _ _) (fun _ _ h => h)).trans (only1 (p := kr) _ _) (fun _ _ h => h)
            have q0 : ((((w4.setCell ⟨kr, 0, none⟩ (.string t.nm)).setCell ⟨kr, 1, none⟩ (.slice ca cn cc)).setCell ⟨kr, 2, none⟩ (.int .i64 (t.pk : Int))).setCell ⟨kr, 3, none⟩ (.int .i64 (ixI t.ix))).cell? ⟨kr, 0, none⟩ = some (.string t.nm) := N4.cell 0
            have q1 : ((((w4.setCell ⟨kr, 0, none⟩ (.string t.nm)).setCell ⟨kr, 1, none⟩ (.slice ca cn cc)).setCell ⟨kr, 2, none⟩ (.int .i64 (t.pk : Int))).setCell ⟨kr, 3, none⟩ (.int .i64 (ixI t.ix))).cell? ⟨kr, 1, none⟩ = some (.slice ca cn cc) := N4.cell 1
            have q2 : ((((w4.setCell ⟨kr, 0, none⟩ (.string t.nm)).setCell ⟨kr, 1, none⟩ (.slice ca cn cc)).setCell ⟨kr, 2, none⟩ (.int .i64 (t.pk : Int))).setCell ⟨kr, 3, none⟩ (.int .i64 (ixI t.ix))).cell? ⟨kr, 2, none⟩ = some (.int .i64 (t.pk : Int)) := N4.cell 2
            have q3 : ((((w4.setCell ⟨kr, 0, none⟩ (.string t.nm)).setCell ⟨kr, 1, none⟩ (.slice ca cn cc)).setCell ⟨kr, 2, none⟩ (.int .i64 (t.pk : Int))).setCell ⟨kr, 3, none⟩ (.int .i64 (ixI t.ix))).cell? ⟨kr, 3, none⟩ = some (.int .i64 (ixI t.ix)) := N4.cell 3
            have FF := hide (show TkP q w g x X op S T sn t.nm mode (.returned (.tuple #[.agg (scC t.nm (.slice ca cn cc) (t.pk : Int) (ixI t.ix)), .int .i64 0])) ((((w4.setCell ⟨kr, 0, none⟩ (.string t.nm)).setCell ⟨kr, 1, none⟩ (.slice ca cn cc)).setCell ⟨kr, 2, none⟩ (.int .i64 (t.pk : Int))).setCell ⟨kr, 3, none⟩ (.int .i64 (ixI t.ix))) from .yes t hd (.slice ca cn cc) i ht rfl (unhide hIn) rfl (((unhide HC3).keep (unhide HO5) (fun k hk e => by have := unhide HCn k hk; have e' : k = g := e; omega)).keep o4 (fun k hk e => by have := unhide HCn k hk; have e' : k = kr := e; omega)) (fun k hk => by have := unhide HCn k hk; omega) (unhide HTk) (((unhide HX3).own (unhide HX5) (unhide HO5) (unhide HTw).1 (unhide HTw).2.1).far o4 (fun k hk e => unhide HK0 k (by rcases hk with h | h | h | ⟨a, b, h⟩ | ⟨a, b, h⟩; exact .inl h; exact .inr (.inl h); exact .inr (.inr (.inl h)); exact .inr (.inr (.inr (.inl ⟨a, b, by rw [(unhide HTw).1] at h; exact h⟩))); exact .inr (.inr (.inr (.inr ⟨a, b, by rw [(unhide HTw).2.1] at h; exact h⟩)))) e)) ((((unhide HO3).mono (T := fun k => q.S k ∨ k = g) (fun _ _ h => .inl h)).trans (unhide HO5) (fun k _ e => .inr e)).trans o4 (fun y hy e => by have e' : y = kr := e; omega)))
            clear NK N4 o4
            go_wp2_with fail
            exact bodyPost_ret (v := .tuple #[.agg #[.string t.nm, .slice ca cn cc, .int .i64 (t.pk : Int), .int .i64 (ixI t.ix)], .int .i64 0]) (by simp [results, Tryz.results310, go_sem, q0, q1, q2, q3]) rfl (unhide FF)
      · have C4 := xbarred_any (unhide HX3).xm.has hi (sn : Int) mode
        obtain ⟨bb, hbb⟩ : ∃ b : Bool, X.bar i sn mode = b := ⟨_, rfl⟩
        rw [hbb] at C4
        have C4 := hide C4
        have HBB := hide hbb
        have i00 : decide ((i : Int) ≥ 0) = true := decide_eq_true (by omega)
        have i01 : decide ((0 : Int) ≤ (i : Int)) = true := decide_eq_true (by omega)
        clear hbb
        go_wp2_with fail
        refine (unhide C4).mono ?_
        rintro e w3' ⟨rfl, rfl⟩
        clear C4 i00 i01
        cases bb with
        | true =>
          have NK := unhide HN3
          have r0 := NK.cell 0
          have rz0 := NK.free 0
          have r1 := NK.cell 1
          have rz1 := NK.free 1
          have r2 := NK.cell 2
          have rz2 := NK.free 2
          have r3 := NK.cell 3
          have rz3 := NK.free 3
          simp only [List.getElem?_toArray, List.getElem?_cons_zero, List.getElem?_cons_succ] at r0 r1 r2 r3
          have rl := NK.lt
          have N4 : Has ((((w3.setCell ⟨kr, 0, none⟩ (.string ⟨#[]⟩)).setCell ⟨kr, 1, none⟩ (.slice none 0 0)).setCell ⟨kr, 2, none⟩ (.int .i64 0)).setCell ⟨kr, 3, none⟩ (.int .i64 0)) kr #[.string ⟨#[]⟩, .slice none 0 0, .int .i64 0, .int .i64 0] 79 := (((NK.setCell 0 (.string ⟨#[]⟩)).setCell 1 (.slice none 0 0)).setCell 2 (.int .i64 0)).setCell 3 (.int .i64 0)
          have o4 : Only (fun y => y = kr) w3 ((((w3.setCell ⟨kr, 0, none⟩ (.string ⟨#[]⟩)).setCell ⟨kr, 1, none⟩ (.slice none 0 0)).setCell ⟨kr, 2, none⟩ (.int .i64 0)).setCell ⟨kr, 3, none⟩ (.int .i64 0)) := (((only1 (p := kr) _ _).trans (only1 (p := kr) _ _) (fun _ _ h => h)).trans (only1 (p := kr) _ _) (fun _ _ h => h)).trans (only1 (p := kr) _ _) (fun _ _ h => h)
          have q0 : ((((w3.setCell ⟨kr, 0, none⟩ (.string ⟨#[]⟩)).setCell ⟨kr, 1, none⟩ (.slice none 0 0)).setCell ⟨kr, 2, none⟩ (.int .i64 0)).setCell ⟨kr, 3, none⟩ (.int .i64 0)).cell? ⟨kr, 0, none⟩ = some (.string ⟨#[]⟩) := N4.cell 0
          have q1 : ((((w3.setCell ⟨kr, 0, none⟩ (.string ⟨#[]⟩)).setCell ⟨kr, 1, none⟩ (.slice none 0 0)).setCell ⟨kr, 2, none⟩ (.int .i64 0)).setCell ⟨kr, 3, none⟩ (.int .i64 0)).cell? ⟨kr, 1, none⟩ = some (.slice none 0 0) := N4.cell 1
          have q2 : ((((w3.setCell ⟨kr, 0, none⟩ (.string ⟨#[]⟩)).setCell ⟨kr, 1, none⟩ (.slice none 0 0)).setCell ⟨kr, 2, none⟩ (.int .i64 0)).setCell ⟨kr, 3, none⟩ (.int .i64 0)).cell? ⟨kr, 2, none⟩ = some (.int .i64 0) := N4.cell 2
          have q3 : ((((w3.setCell ⟨kr, 0, none⟩ (.string ⟨#[]⟩)).setCell ⟨kr, 1, none⟩ (.slice none 0 0)).setCell ⟨kr, 2, none⟩ (.int .i64 0)).setCell ⟨kr, 3, none⟩ (.int .i64 0)).cell? ⟨kr, 3, none⟩ = some (.int .i64 0) := N4.cell 3
          have FF := hide (show TkP q w g x X op S T sn t.nm mode (.returned (.tuple #[schZ, .int .i64 21])) ((((w3.setCell ⟨kr, 0, none⟩ (.string ⟨#[]⟩)).setCell ⟨kr, 1, none⟩ (.slice none 0 0)).setCell ⟨kr, 2, none⟩ (.int .i64 0)).setCell ⟨kr, 3, none⟩ (.int .i64 0)) from .no 21 rfl ⟨by omega, .inr (.inr (.inl ⟨unhide hIn, ⟨_, ht, rfl⟩, rfl, i, hi, unhide HR, unhide HBB⟩))⟩ ((unhide HX3).far o4 (unhide HK0)) ((unhide HO3).trans o4 (fun y hy e => by have e' : y = kr := e; omega)))
          clear NK N4 o4
          go_wp2_with fail
          exact bodyPost_ret (v := .tuple #[.agg #[.string ⟨#[]⟩, .slice none 0 0, .int .i64 0, .int .i64 0], .int .i64 21]) (by simp [results, Tryz.results310, go_sem, q0, q1, q2, q3]) rfl (unhide FF)
        | false =>
          have hTk : TkI X sn t.nm mode i := ⟨hi, .inl ⟨unhide HR, unhide HBB⟩⟩
          have HTk := hide hTk
          have i3 : (i : Int) < 3 := by omega
          have i0 : decide ((i : Int) < 0) = false := decide_eq_false (by omega)
          have d0 := (unhide HX3).xm.has.used hi
          have d1 := (unhide HX3).xm.has.name hi
          have f0 := (unhide HX3).xm.has.fr (5 + i * 6)
          have f1 := (unhide HX3).xm.has.fr (5 + i * 6 + 1)
          have gl3 := (unhide HX3).xm.has.lt
          have HX4 := hide ((((unhide HX3).xm.has.setU hi true).setN hi t.nm))
          have HO4 : Hid (Only (fun k => k = g) w3 ((w3.setCell ⟨g, 5 + i * 6, none⟩ (.bool true)).setCell ⟨g, 5 + i * 6 + 1, none⟩ (.string t.nm))) := hide ((only1 (p := g) _ _).trans (only1 (p := g) _ _) (fun _ _ h => h))
          obtain ⟨b0, hb0⟩ : ∃ b : Bool, X.us i = b := ⟨_, rfl⟩
          obtain ⟨b1, hb1⟩ : ∃ b, X.nm i = b := ⟨_, rfl⟩
          rw [hb0] at d0
          rw [hb1] at d1
          clear hTk hb0 hb1
          go_upto_region 16 with fail
          generalize ((w3.setCell ⟨g, 5 + i * 6, none⟩ (.bool true)).setCell ⟨g, 5 + i * 6 + 1, none⟩ (.string t.nm)) = w4 at *
          clear d0 d1 f0 f1 gl3
          have m0 : w4.cell? ⟨g, 5 + i * 6 + 2 + sn, none⟩ = some (.int .i64 (X.md i sn)) := (unhide HX4).mode hi hsn
          have mf := (unhide HX4).fr (5 + i * 6 + 2 + sn)
          have gl4 := (unhide HX4).lt
          have hTw := Xs.tk_w X i sn t.nm mode
          have HTw := hide hTw
          obtain ⟨md, hmd⟩ : ∃ z, X.md i sn = z := ⟨_, rfl⟩
          rw [hmd] at m0
          clear hTw
          by_cases hm : md < mode
          · have e1 : decide (mode > md) = true := decide_eq_true hm
            have e2 : decide (md < mode) = true := decide_eq_true hm
            have HX5 := hide (show XH (w4.setCell ⟨g, 5 + i * 6 + 2 + sn, none⟩ (.int .i64 mode)) g x (X.tk i sn t.nm mode) from by
              unfold Xs.tk
              rw [hmd, if_pos hm]
              exact (unhide HX4).setM hi hsn mode)
            have HO5 : Hid (Only (fun k => k = g) w3 (w4.setCell ⟨g, 5 + i * 6 + 2 + sn, none⟩ (.int .i64 mode))) := hide ((unhide HO4).trans (only1 (p := g) _ _) (fun _ _ h => h))
            clear hmd hm
            go_upto_region 18 with fail
            generalize w4.setCell ⟨g, 5 + i * 6 + 2 + sn, none⟩ (.int .i64 mode) = w5 at *
            clear m0 mf gl4 e1 e2
            have ND := (unhide HD3).keep (unhide HO5) (fun e => by have e' : kd = g := e; omega)
            have k0 : w5.cell? ⟨kd, 0, none⟩ = some (.string t.nm) := ND.cell 0
            have k1 : w5.cell? ⟨kd, 1, none⟩ = some (.slice ca cn cc) := ND.cell 1
            have k2 : w5.cell? ⟨kd, 2, none⟩ = some (.int .i64 (t.pk : Int)) := ND.cell 2
            have k3 : w5.cell? ⟨kd, 3, none⟩ = some (.int .i64 (ixI t.ix)) := ND.cell 3
            have kdl := ND.lt
            have HNF := hide ((unhide HN3).keep (unhide HO5) (fun e => by have e' : kr = g := e; omega))
            clear ND
            have NK := unhide HNF
            have r0 := NK.cell 0
            have rz0 := NK.free 0
            have r1 := NK.cell 1
            have rz1 := NK.free 1
            have r2 := NK.cell 2
            have rz2 := NK.free 2
            have r3 := NK.cell 3
            have rz3 := NK.free 3
            simp only [List.getElem?_toArray, List.getElem?_cons_zero, List.getElem?_cons_succ] at r0 r1 r2 r3
            have rl := NK.lt
            have N4 : Has ((((w5.setCell ⟨kr, 0, none⟩ (.string t.nm)).setCell ⟨kr, 1, none⟩ (.slice ca cn cc)).setCell ⟨kr, 2, none⟩ (.int .i64 (t.pk : Int))).setCell ⟨kr, 3, none⟩ (.int .i64 (ixI t.ix))) kr #[.string t.nm, .slice ca cn cc, .int .i64 (t.pk : Int), .int .i64 (ixI t.ix)] 79 := (((NK.setCell 0 (.string t.nm)).setCell 1 (.slice ca cn cc)).setCell 2 (.int .i64 (t.pk : Int))).setCell 3 (.int .i64 (ixI t.ix))
            have o4 : Only (fun y => y = kr) w5 ((((w5.setCell ⟨kr, 0, none⟩ (.string t.nm)).setCell ⟨kr, 1, none⟩ (.slice ca cn cc)).setCell ⟨kr, 2, none⟩ (.int .i64 (t.pk : Int))).setCell ⟨kr, 3, none⟩ (.int .i64 (ixI t.ix))) := (((only1 (p := kr) _ _).trans (only1 (p := kr) _ _) (fun _ _ h => h)).trans (only1 (p := kr) _ _) (fun _ _ h => h)).trans (only1 (p := kr) _ _) (fun _ _ h => h)
            have q0 : ((((w5.setCell ⟨kr, 0, none⟩ (.string t.nm)).setCell ⟨kr, 1, none⟩ (.slice ca cn cc)).setCell ⟨kr, 2, none⟩ (.int .i64 (t.pk : Int))).setCell ⟨kr, 3, none⟩ (.int .i64 (ixI t.ix))).cell? ⟨kr, 0, none⟩ = some (.string t.nm) := N4.cell 0
            have q1 : ((((w5.setCell ⟨kr, 0, none⟩ (.string t.nm)).setCell ⟨kr, 1, none⟩ (.slice ca cn cc)).setCell ⟨kr, 2, none⟩ (.int .i64 (t.pk : Int))).setCell ⟨kr, 3, none⟩ (.int .i64 (ixI t.ix))).cell? ⟨kr, 1, none⟩ = some (.slice ca cn cc) := N4.cell 1
            have q2 : ((((w5.setCell ⟨kr, 0, none⟩ (.string t.nm)).setCell ⟨kr, 1, none⟩ (.slice ca cn cc)).setCell ⟨kr, 2, none⟩ (.int .i64 (t.pk : Int))).setCell ⟨kr, 3, none⟩ (.int .i64 (ixI t.ix))).cell? ⟨kr, 2, none⟩ = some (.int .i64 (t.pk : Int)) := N4.cell 2
            have q3 : ((((w5.setCell ⟨kr, 0, none⟩ (.string t.nm)).setCell ⟨kr, 1, none⟩ (.slice ca cn cc)).setCell ⟨kr, 2, none⟩ (.int .i64 (t.pk : Int))).setCell ⟨kr, 3, none⟩ (.int .i64 (ixI t.ix))).cell? ⟨kr, 3, none⟩ = some (.int .i64 (ixI t.ix)) := N4.cell 3
            have FF := hide (show TkP q w g x X op S T sn t.nm mode (.returned (.tuple #[.agg (scC t.nm (.slice ca cn cc) (t.pk : Int) (ixI t.ix)), .int .i64 0])) ((((w5.setCell ⟨kr, 0, none⟩ (.string t.nm)).setCell ⟨kr, 1, none⟩ (.slice ca cn cc)).setCell ⟨kr, 2, none⟩ (.int .i64 (t.pk : Int))).setCell ⟨kr, 3, none⟩ (.int .i64 (ixI t.ix))) from .yes t hd (.slice ca cn cc) i ht rfl (unhide hIn) rfl (((unhide HC3).keep (unhide HO5) (fun k hk e => by have := unhide HCn k hk; have e' : k = g := e; omega)).keep o4 (fun k hk e => by have := unhide HCn k hk; have e' : k = kr := e; omega)) (fun k hk => by have := unhide HCn k hk; omega) (unhide HTk) (((unhide HX3).own (unhide HX5) (unhide HO5) (unhide HTw).1 (unhide HTw).2.1).far o4 (fun k hk e => unhide HK0 k (by rcases hk with h | h | h | ⟨a, b, h⟩ | ⟨a, b, h⟩; exact .inl h; exact .inr (.inl h); exact .inr (.inr (.inl h)); exact .inr (.inr (.inr (.inl ⟨a, b, by rw [(unhide HTw).1] at h; exact h⟩))); exact .inr (.inr (.inr (.inr ⟨a, b, by rw [(unhide HTw).2.1] at h; exact h⟩)))) e)) ((((unhide HO3).mono (T := fun k => q.S k ∨ k = g) (fun _ _ h => .inl h)).trans (unhide HO5) (fun k _ e => .inr e)).trans o4 (fun y hy e => by have e' : y = kr := e; omega)))
            clear NK N4 o4
            go_wp2_with fail
            exact bodyPost_ret (v := .tuple #[.agg #[.string t.nm, .slice ca cn cc, .int .i64 (t.pk : Int), .int .i64 (ixI t.ix)], .int .i64 0]) (by simp [results, Tryz.results310, go_sem, q0, q1, q2, q3]) rfl (unhide FF)
          · have e1 : decide (mode > md) = false := decide_eq_false hm
            have e2 : decide (md < mode) = false := decide_eq_false hm
            have HX5 := hide (show XH w4 g x (X.tk i sn t.nm mode) from by
              unfold Xs.tk
              rw [hmd, if_neg hm]
              exact unhide HX4)
            have HO5 := HO4
            clear hmd hm
            go_upto_region 18 with fail
            clear m0 mf gl4 e1 e2
            have ND := (unhide HD3).keep (unhide HO5) (fun e => by have e' : kd = g := e; omega)
            have k0 : w4.cell? ⟨kd, 0, none⟩ = some (.string t.nm) := ND.cell 0
            have k1 : w4.cell? ⟨kd, 1, none⟩ = some (.slice ca cn cc) := ND.cell 1
            have k2 : w4.cell? ⟨kd, 2, none⟩ = some (.int .i64 (t.pk : Int)) := ND.cell 2
            have k3 : w4.cell? ⟨kd, 3, none⟩ = some (.int .i64 (ixI t.ix)) := ND.cell 3
            have kdl := ND.lt
            have HNF := hide ((unhide HN3).keep (unhide HO5) (fun e => by have e' : kr = g := e; omega))
            clear ND
            have NK := unhide HNF
            have r0 := NK.cell 0
            have rz0 := NK.free 0
            have r1 := NK.cell 1
            have rz1 := NK.free 1
            have r2 := NK.cell 2
            have rz2 := NK.free 2
            have r3 := NK.cell 3
            have rz3 := NK.free 3
            simp only [List.getElem?_toArray, List.getElem?_cons_zero, List.getElem?_cons_succ] at r0 r1 r2 r3
            have rl := NK.lt
            have N4 : Has ((((w4.setCell ⟨kr, 0, none⟩ (.string t.nm)).setCell ⟨kr, 1, none⟩ (.slice ca cn cc)).setCell ⟨kr, 2, none⟩ (.int .i64 (t.pk : Int))).setCell ⟨kr, 3, none⟩ (.int .i64 (ixI t.ix))) kr #[.string t.nm, .slice ca cn cc, .int .i64 (t.pk : Int), .int .i64 (ixI t.ix)] 79 := (((NK.setCell 0 (.string t.nm)).setCell 1 (.slice ca cn cc)).setCell 2 (.int .i64 (t.pk : Int))).setCell 3 (.int .i64 (ixI t.ix))
            have o4 : Only (fun y => y = kr) w4 ((((w4.setCell ⟨kr, 0, none⟩ (.string t.nm)).setCell ⟨kr, 1, none⟩ (.slice ca cn cc)).setCell ⟨kr, 2, none⟩ (.int .i64 (t.pk : Int))).setCell ⟨kr, 3, none⟩ (.int .i64 (ixI t.ix))) := (((only1 (p := kr) _ _).trans (only1 (p := kr) _ _) (fun _ _ h => h)).trans (only1 (p := kr) _ _) (fun _ _ h => h)).trans (only1 (p := kr) _ _) (fun _ _ h => h)
            have q0 : ((((w4.setCell ⟨kr, 0, none⟩ (.string t.nm)).setCell ⟨kr, 1, none⟩ (.slice ca cn cc)).setCell ⟨kr, 2, none⟩ (.int .i64 (t.pk : Int))).setCell ⟨kr, 3, none⟩ (.int .i64 (ixI t.ix))).cell? ⟨kr, 0, none⟩ = some (.string t.nm) := N4.cell 0
            have q1 : ((((w4.setCell ⟨kr, 0, none⟩ (.string t.nm)).setCell ⟨kr, 1, none⟩ (.slice ca cn cc)).setCell ⟨kr, 2, none⟩ (.int .i64 (t.pk : Int))).setCell ⟨kr, 3, none⟩ (.int .i64 (ixI t.ix))).cell? ⟨kr, 1, none⟩ = some (.slice ca cn cc) := N4.cell 1
            have q2 : ((((w4.setCell ⟨kr, 0, none⟩ (.string t.nm)).setCell ⟨kr, 1, none⟩ (.slice ca cn cc)).setCell ⟨kr, 2, none⟩ (.int .i64 (t.pk : Int))).setCell ⟨kr, 3, none⟩ (.int .i64 (ixI t.ix))).cell? ⟨kr, 2, none⟩ = some (.int .i64 (t.pk : Int)) := N4.cell 2
            have q3 : ((((w4.setCell ⟨kr, 0, none⟩ (.string t.nm)).setCell ⟨kr, 1, none⟩ (.slice ca cn cc)).setCell ⟨kr, 2, none⟩ (.int .i64 (t.pk : Int))).setCell ⟨kr, 3, none⟩ (.int .i64 (ixI t.ix))).cell? ⟨kr, 3, none⟩ = some (.int .i64 (ixI t.ix)) := N4.cell 3
            have FF := hide (show TkP q w g x X op S T sn t.nm mode (.returned (.tuple #[.agg (scC t.nm (.slice ca cn cc) (t.pk : Int) (ixI t.ix)), .int .i64 0])) ((((w4.setCell ⟨kr, 0, none⟩ (.string t.nm)).setCell ⟨kr, 1, none⟩ (.slice ca cn cc)).setCell ⟨kr, 2, none⟩ (.int .i64 (t.pk : Int))).setCell ⟨kr, 3, none⟩ (.int .i64 (ixI t.ix))) from .yes t hd (.slice ca cn cc) i ht rfl (unhide hIn) rfl (((unhide HC3).keep (unhide HO5) (fun k hk e => by have := unhide HCn k hk; have e' : k = g := e; omega)).keep o4 (fun k hk e => by have := unhide HCn k hk; have e' : k = kr := e; omega)) (fun k hk => by have := unhide HCn k hk; omega) (unhide HTk) (((unhide HX3).own (unhide HX5) (unhide HO5) (unhide HTw).1 (unhide HTw).2.1).far o4 (fun k hk e => unhide HK0 k (by rcases hk with h | h | h | ⟨a, b, h⟩ | ⟨a, b, h⟩; exact .inl h; exact .inr (.inl h); exact .inr (.inr (.inl h)); exact .inr (.inr (.inr (.inl ⟨a, b, by rw [(unhide HTw).1] at h; exact h⟩))); exact .inr (.inr (.inr (.inr ⟨a, b, by rw [(unhide HTw).2.1] at h; exact h⟩)))) e)) ((((unhide HO3).mono (T := fun k => q.S k ∨ k = g) (fun _ _ h => .inl h)).trans (unhide HO5) (fun k _ e => .inr e)).trans o4 (fun y hy e => by have e' : y = kr := e; omega)))
            clear NK N4 o4
            go_wp2_with fail
            exact bodyPost_ret (v := .tuple #[.agg #[.string t.nm, .slice ca cn cc, .int .i64 (t.pk : Int), .int .i64 (ixI t.ix)], .int .i64 0]) (by simp [results, Tryz.results310, go_sem, q0, q1, q2, q3]) rfl (unhide FF)
  · obtain ⟨z, hz⟩ : ∃ z, inTx X s = z := ⟨_, rfl⟩
    rw [hz] at h0 ⊢
    have e0 : (z != 0) = true := by simpa using h0
    have Hz := hide (And.intro hz h0)
    clear hz h0
    have NK := unhide HN
    have r0 := NK.cell 0
    have rz0 := NK.free 0
    have r1 := NK.cell 1
    have rz1 := NK.free 1
    have r2 := NK.cell 2
    have rz2 := NK.free 2
    have r3 := NK.cell 3
    have rz3 := NK.free 3
    simp only [List.getElem?_toArray, List.getElem?_cons_zero, List.getElem?_cons_succ] at r0 r1 r2 r3
    have rl := NK.lt
    have N4 : Has ((((w0.setCell ⟨kr, 0, none⟩ (.string ⟨#[]⟩)).setCell ⟨kr, 1, none⟩ (.slice none 0 0)).setCell ⟨kr, 2, none⟩ (.int .i64 0)).setCell ⟨kr, 3, none⟩ (.int .i64 0)) kr #[.string ⟨#[]⟩, .slice none 0 0, .int .i64 0, .int .i64 0] 79 := (((NK.setCell 0 (.string ⟨#[]⟩)).setCell 1 (.slice none 0 0)).setCell 2 (.int .i64 0)).setCell 3 (.int .i64 0)
    have o4 : Only (fun y => y = kr) w0 ((((w0.setCell ⟨kr, 0, none⟩ (.string ⟨#[]⟩)).setCell ⟨kr, 1, none⟩ (.slice none 0 0)).setCell ⟨kr, 2, none⟩ (.int .i64 0)).setCell ⟨kr, 3, none⟩ (.int .i64 0)) := (((only1 (p := kr) _ _).trans (only1 (p := kr) _ _) (fun _ _ h => h)).trans (only1 (p := kr) _ _) (fun _ _ h => h)).trans (only1 (p := kr) _ _) (fun _ _ h => h)
    have q0 : ((((w0.setCell ⟨kr, 0, none⟩ (.string ⟨#[]⟩)).setCell ⟨kr, 1, none⟩ (.slice none 0 0)).setCell ⟨kr, 2, none⟩ (.int .i64 0)).setCell ⟨kr, 3, none⟩ (.int .i64 0)).cell? ⟨kr, 0, none⟩ = some (.string ⟨#[]⟩) := N4.cell 0
    have q1 : ((((w0.setCell ⟨kr, 0, none⟩ (.string ⟨#[]⟩)).setCell ⟨kr, 1, none⟩ (.slice none 0 0)).setCell ⟨kr, 2, none⟩ (.int .i64 0)).setCell ⟨kr, 3, none⟩ (.int .i64 0)).cell? ⟨kr, 1, none⟩ = some (.slice none 0 0) := N4.cell 1
    have q2 : ((((w0.setCell ⟨kr, 0, none⟩ (.string ⟨#[]⟩)).setCell ⟨kr, 1, none⟩ (.slice none 0 0)).setCell ⟨kr, 2, none⟩ (.int .i64 0)).setCell ⟨kr, 3, none⟩ (.int .i64 0)).cell? ⟨kr, 2, none⟩ = some (.int .i64 0) := N4.cell 2
    have q3 : ((((w0.setCell ⟨kr, 0, none⟩ (.string ⟨#[]⟩)).setCell ⟨kr, 1, none⟩ (.slice none 0 0)).setCell ⟨kr, 2, none⟩ (.int .i64 0)).setCell ⟨kr, 3, none⟩ (.int .i64 0)).cell? ⟨kr, 3, none⟩ = some (.int .i64 0) := N4.cell 3
    have FF := hide (show TkP q w g x X op S T s nm mode (.returned (.tuple #[schZ, .int .i64 z])) ((((w0.setCell ⟨kr, 0, none⟩ (.string ⟨#[]⟩)).setCell ⟨kr, 1, none⟩ (.slice none 0 0)).setCell ⟨kr, 2, none⟩ (.int .i64 0)).setCell ⟨kr, 3, none⟩ (.int .i64 0)) from .no z rfl ⟨(unhide Hz).2, .inl (unhide Hz).1⟩ ((unhide HX).far o4 (unhide HK0)) (((unhide HO).trans o4 (fun y hy e => by have e' : y = kr := e; omega)).mono (fun _ _ h => h.elim)))
    clear NK N4 o4
    go_wp2_with fail
    exact bodyPost_ret (v := .tuple #[.agg #[.string ⟨#[]⟩, .slice none 0 0, .int .i64 0, .int .i64 0], .int .i64 z]) (by simp [results, Tryz.results310, go_sem, q0, q1, q2, q3]) rfl (unhide FF)

end
end Go.Proofs.Qxb6500412aGreat
