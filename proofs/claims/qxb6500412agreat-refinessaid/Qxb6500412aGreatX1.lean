/-
  OWN WORK. TXN: at, side; who is in a transaction; the lock table's looks.
-/
import Derived.Test.Qxb6500412aGreatX0
namespace Go.Proofs.Qxb6500412aGreat
open Go.RowKit Go.PlainAid
set_option linter.unusedSimpArgs false
set_option linter.unusedVariables false

def atV (r : List Vl) (c : Int) : Vl := if 0 ≤ c then (r[c.toNat]?).getD (vI 0) else vI 0
theorem atV_in {r : List Vl} {c : Nat} {x : Vl} (h : r[c]? = some x) : atV r (c : Int) = x := by
  unfold atV
  rw [if_pos (by omega)]
  simp [h]
theorem atV_out {r : List Vl} {c : Int} (h : c < 0 ∨ (r.length : Int) ≤ c) : atV r c = vI 0 := by
  unfold atV
  by_cases h0 : 0 ≤ c
  · rw [if_pos h0, List.getElem?_eq_none (by omega)]; rfl
  · rw [if_neg h0]
set_option maxRecDepth 100000 in
theorem xat_any {w : World} {v : Value} {r : List Vl} (O : OwnV w v r) (c : Int) : Calls Tryz.prog 257 #[v, .int .i64 c] w fun e w' => e = .returned (vlA (atV r c)) ∧ Only (fun _ => False) w w' := by
  obtain ⟨a, cap, rfl⟩ := O.shape
  have o0 : Only (fun _ => False) w (w.alloc (.cells #[.bool false, .int .i64 0, .string ⟨#[]⟩] 152)) := (Only.refl _ w).alloc _
  have N0 := Has.new w #[.bool false, .int .i64 0, .string ⟨#[]⟩] 152
  by_cases hin : 0 ≤ c ∧ c < (r.length : Int)
  · obtain ⟨n, rfl⟩ : ∃ n : Nat, c = n := ⟨c.toNat, by omega⟩
    obtain ⟨x, hx⟩ := getE (l := r) (i := n) (by omega)
    obtain ⟨g, rfl, d0, d1, d2⟩ := (O.keep o0 (fun _ _ h => h)).at_ hx
    have n1 : (n : Int) < (r.length : Int) := hin.2
    have a1 : decide ((n : Int) < 0) = false := decide_eq_false (by omega)
    have a2 : decide ((r.length : Int) ≤ (n : Int)) = false := decide_eq_false (by omega)
    have a3 : decide ((n : Int) ≥ (r.length : Int)) = false := decide_eq_false (by omega)
    rw [atV_in hx]
    have q0 := N0.cell 0
    have q1 := N0.cell 1
    have q2 := N0.cell 2
    have z0 := N0.free 0
    have z1 := N0.free 1
    have z2 := N0.free 2
    simp at q0 q1 q2
    have N3 := ((N0.setCell 0 (.bool x.str)).setCell 1 (.int .i64 x.i)).setCell 2 (.string x.s)
    have c0 := N3.cell 0
    have c1 := N3.cell 1
    have c2 := N3.cell 2
    simp at c0 c1 c2
    have o3 : Only (fun y => y = w.heap.size) (w.alloc (.cells #[.bool false, .int .i64 0, .string ⟨#[]⟩] 152)) ((((w.alloc (.cells #[.bool false, .int .i64 0, .string ⟨#[]⟩] 152)).setCell ⟨w.heap.size, 0, none⟩ (.bool x.str)).setCell ⟨w.heap.size, 1, none⟩ (.int .i64 x.i)).setCell ⟨w.heap.size, 2, none⟩ (.string x.s)) := ((only1 _ _).trans (only1 _ _) (fun _ _ h => h)).trans (only1 _ _) (fun _ _ h => h)
    have HP := hide (o0.fresh o3 (Nat.le_refl _))
    have oN : Only (fun _ => False) w (w.alloc (.cells #[.bool x.str, .int .i64 x.i, .string x.s] 152)) := (Only.refl _ w).alloc _
    have HP2 := hide oN
    have M0 := Has.new w #[.bool x.str, .int .i64 x.i, .string x.s] 152
    have m0 := M0.cell 0
    have m1 := M0.cell 1
    have m2 := M0.cell 2
    simp at m0 m1 m2
    clear N0 N3 o0 o3 O hx hin oN M0
    go_enter Tryz.func257, Tryz.ntmps257
    go_wp2_with fail
    first
    | exact bodyPost_ret (v := vlA x) (by simp [results, Tryz.results257, go_sem, c0, c1, c2, vlA]) rfl ⟨rfl, unhide HP⟩
    | exact bodyPost_ret (v := vlA x) (by simp [results, Tryz.results257, go_sem, m0, m1, m2, vlA]) rfl ⟨rfl, unhide HP2⟩
  · rw [atV_out (by omega)]
    have C1 := hide (eInt_any 0 (w.alloc (.cells #[.bool false, .int .i64 0, .string ⟨#[]⟩] 152)))
    have HN0 := hide N0
    have HO0 := hide o0
    have HH : Hid (∀ w2, Only (fun _ => False) (w.alloc (.cells #[.bool false, .int .i64 0, .string ⟨#[]⟩] 152)) w2 → Only (fun _ => False) w (((w2.setCell ⟨w.heap.size, 0, none⟩ (.bool false)).setCell ⟨w.heap.size, 1, none⟩ (.int .i64 0)).setCell ⟨w.heap.size, 2, none⟩ (.string ⟨#[]⟩))) := hide (fun w2 o2 => by
      have o3 : Only (fun y => y = w.heap.size) w2 (((w2.setCell ⟨w.heap.size, 0, none⟩ (.bool false)).setCell ⟨w.heap.size, 1, none⟩ (.int .i64 0)).setCell ⟨w.heap.size, 2, none⟩ (.string ⟨#[]⟩)) := ((only1 _ _).trans (only1 _ _) (fun _ _ h => h)).trans (only1 _ _) (fun _ _ h => h)
      exact (o0.trans o2 (fun _ _ h => h)).fresh o3 (Nat.le_refl _))
    clear N0 o0 O
    by_cases hc : c < 0
    · have a1 : decide (c < 0) = true := decide_eq_true hc
      clear hin hc
      go_enter Tryz.func257, Tryz.ntmps257
      go_wp2_with fail
      refine (unhide C1).mono ?_
      rintro e w2 ⟨rfl, o2⟩
      unfold vlA vI
      have N2 := (unhide HN0).keep o2 (fun h => h)
      have c0 := N2.cell 0
      have c1 := N2.cell 1
      have c2 := N2.cell 2
      have f0 := N2.free 0
      have f1 := N2.free 1
      have f2 := N2.free 2
      simp at c0 c1 c2
      have N3 := ((N2.setCell 0 (.bool false)).setCell 1 (.int .i64 0)).setCell 2 (.string ⟨#[]⟩)
      have q0 := N3.cell 0
      have q1 := N3.cell 1
      have q2 := N3.cell 2
      simp at q0 q1 q2
      have HP := hide (unhide HH w2 o2)
      clear N2 N3 o2 C1
      go_wp2_with fail
      exact bodyPost_ret (v := .agg #[.bool false, .int .i64 0, .string ⟨#[]⟩]) (by simp [results, Tryz.results257, go_sem, q0, q1, q2]) rfl ⟨rfl, unhide HP⟩
    · have a1 : decide (c < 0) = false := decide_eq_false hc
      have a2 : decide ((r.length : Int) ≤ c) = true := decide_eq_true (by omega)
      have a3 : decide (c ≥ (r.length : Int)) = true := decide_eq_true (by omega)
      clear hin hc
      go_enter Tryz.func257, Tryz.ntmps257
      go_wp2_with fail
      refine (unhide C1).mono ?_
      rintro e w2 ⟨rfl, o2⟩
      unfold vlA vI
      have N2 := (unhide HN0).keep o2 (fun h => h)
      have c0 := N2.cell 0
      have c1 := N2.cell 1
      have c2 := N2.cell 2
      have f0 := N2.free 0
      have f1 := N2.free 1
      have f2 := N2.free 2
      simp at c0 c1 c2
      have N3 := ((N2.setCell 0 (.bool false)).setCell 1 (.int .i64 0)).setCell 2 (.string ⟨#[]⟩)
      have q0 := N3.cell 0
      have q1 := N3.cell 1
      have q2 := N3.cell 2
      simp at q0 q1 q2
      have HP := hide (unhide HH w2 o2)
      clear N2 N3 o2 C1
      go_wp2_with fail
      exact bodyPost_ret (v := .agg #[.bool false, .int .i64 0, .string ⟨#[]⟩]) (by simp [results, Tryz.results257, go_sem, q0, q1, q2]) rfl ⟨rfl, unhide HP⟩
/-- Where (tab, key) lies against a word. -/
def sideP (tab : ByteArray) (key : Vl) (d : Wd) : Int := if lt tab d.tab = true then -1 else if lt d.tab tab = true then 1 else vcmp key d.key
def chA (d : Wd) (u : Value) : Value := .agg #[.string d.tab, .bool d.key.str, .int .i64 d.key.i, .string d.key.s, .bool d.gone, u]
set_option maxRecDepth 100000 in
theorem xside_any (tab : ByteArray) (key : Vl) (d : Wd) (a : Option Addr) (n cap : Nat) (w : World) : Calls Tryz.prog 320 #[.string tab, vlA key, chA d (.slice a n cap)] w fun e w' => e = .returned (.int .i64 (sideP tab key d)) ∧ Only (fun _ => False) w w' := by
  have o0 : Only (fun _ => False) w ((w.alloc (.cells #[.bool key.str, .int .i64 key.i, .string key.s] 152)).alloc (.cells #[.string d.tab, .bool d.key.str, .int .i64 d.key.i, .string d.key.s, .bool d.gone, .slice a n cap] 285)) := ((Only.refl _ w).alloc _).alloc _
  have HO := hide o0
  have C1 := hide (ecmp_any key d.key ((w.alloc (.cells #[.bool key.str, .int .i64 key.i, .string key.s] 152)).alloc (.cells #[.string d.tab, .bool d.key.str, .int .i64 d.key.i, .string d.key.s, .bool d.gone, .slice a n cap] 285)))
  unfold vlA at C1
  clear o0
  unfold vlA chA sideP
  cases c : lt tab d.tab with
  | true =>
    have f1 : Op.bytesLess tab.toList d.tab.toList = true := c
    rw [if_pos rfl]
    clear c C1
    go_enter Tryz.func320, Tryz.ntmps320
    go_wp2_with fail
    go_ret
    exact ⟨rfl, unhide HO⟩
  | false =>
    have f1 : Op.bytesLess tab.toList d.tab.toList = false := c
    rw [if_neg (by simp)]
    cases c2 : lt d.tab tab with
    | true =>
      have f2 : Op.bytesLess d.tab.toList tab.toList = true := c2
      have f3 : (tab.toList == d.tab.toList) = false := ba_ne (fun e => lt_ne c2 e.symm)
      rw [if_pos rfl]
      clear c c2 C1
      go_enter Tryz.func320, Tryz.ntmps320
      go_wp2_with fail
      go_ret
      exact ⟨rfl, unhide HO⟩
    | false =>
      have f2 : Op.bytesLess d.tab.toList tab.toList = false := c2
      have f3 : (tab.toList == d.tab.toList) = true := by
        rcases lt_total tab d.tab with e | e | e
        · rw [c] at e; cases e
        · rw [e]; simp
        · rw [c2] at e; cases e
      rw [if_neg (by simp)]
      clear c c2
      generalize vcmp key d.key = z at *
      go_enter Tryz.func320, Tryz.ntmps320
      go_wp2_with fail
      refine (unhide C1).mono ?_
      rintro e w2 ⟨rfl, o2⟩
      have HP := hide ((unhide HO).trans o2 (fun _ _ h => h))
      clear C1 o2
      go_wp2_with fail
      go_ret
      exact ⟨rfl, unhide HP⟩
/-- A session's number. -/
def gdS (s : Int) : Prop := 0 ≤ s ∧ s < 4
instance (s : Int) : Decidable (gdS s) := by unfold gdS; infer_instance
theorem xgood_any (s : Int) (w : World) : Calls Tryz.prog 104 #[.int .i64 s] w fun e w' => e = .returned (.bool (decide (gdS s))) ∧ w = w' := by
  obtain ⟨b, hb⟩ : ∃ b : Bool, decide (gdS s) = b := ⟨_, rfl⟩
  rw [hb]
  by_cases h1 : 0 ≤ s
  · have a1 : decide (s ≥ 0) = true := decide_eq_true h1
    have a1' : decide (0 ≤ s) = true := decide_eq_true h1
    obtain ⟨c, hc⟩ : ∃ b : Bool, decide (s < 4) = b := ⟨_, rfl⟩
    have e : b = c := by
      rw [← hb, ← hc]
      by_cases h2 : s < 4
      · rw [decide_eq_true h2]; exact decide_eq_true ⟨h1, h2⟩
      · rw [decide_eq_false h2]; exact decide_eq_false (fun h => h2 h.2)
    subst e
    clear hb
    go_enter Tryz.func104, Tryz.ntmps104
    go_wp2_with fail
    go_ret
    exact ⟨rfl, rfl⟩
  · have a1 : decide (s ≥ 0) = false := decide_eq_false h1
    have a1' : decide (0 ≤ s) = false := decide_eq_false h1
    have e : b = false := by rw [← hb]; exact decide_eq_false (fun h => h1 h.1)
    subst e
    clear hb
    go_enter Tryz.func104, Tryz.ntmps104
    go_wp2_with fail
    go_ret
    exact ⟨rfl, rfl⟩
section
variable {w : World} {g t : Nat} {X : Xs}
def inTx (X : Xs) (s : Int) : Int := if gdS s then (if X.act s.toNat = true then 0 else 2) else 20
set_option maxRecDepth 100000 in
theorem xinTxn_any (H : XH w g t X) (s : Int) : Calls Tryz.prog 161 #[.pointer (some ⟨g, 0, none⟩), .int .i64 s] w fun e w' => e = .returned (.int .i64 (inTx X s)) ∧ w = w' := by
  have C1 := xgood_any s w
  unfold inTx
  by_cases hs : gdS s
  · rw [decide_eq_true hs] at C1
    rw [if_pos hs]
    obtain ⟨n, rfl⟩ : ∃ n : Nat, s = n := ⟨s.toNat, by have := hs.1; omega⟩
    have hn : n < 4 := by have := hs.2; omega
    have k0 := H.act hn
    have kl := H.lt
    have C1 := hide C1
    rw [show (n : Int).toNat = n by omega]
    clear hs H
    have n4 : (n : Int) < 4 := by omega
    obtain ⟨b, hb⟩ : ∃ b : Bool, X.act n = b := ⟨_, rfl⟩
    rw [hb] at k0 ⊢
    clear hb
    cases b with
    | true =>
      rw [if_pos rfl]
      go_enter Tryz.func161, Tryz.ntmps161
      go_wp2_with fail
      refine (unhide C1).mono ?_
      rintro e w2 ⟨rfl, rfl⟩
      go_wp2_with fail
      go_ret
      exact ⟨rfl, rfl⟩
    | false =>
      rw [if_neg (by simp)]
      go_enter Tryz.func161, Tryz.ntmps161
      go_wp2_with fail
      refine (unhide C1).mono ?_
      rintro e w2 ⟨rfl, rfl⟩
      go_wp2_with fail
      go_ret
      exact ⟨rfl, rfl⟩
  · rw [decide_eq_false hs] at C1
    rw [if_neg hs]
    have C1 := hide C1
    clear H hs
    go_enter Tryz.func161, Tryz.ntmps161
    go_wp2_with fail
    refine (unhide C1).mono ?_
    rintro e w2 ⟨rfl, rfl⟩
    go_wp2_with fail
    go_ret
    exact ⟨rfl, rfl⟩
end
end Go.Proofs.Qxb6500412aGreat
