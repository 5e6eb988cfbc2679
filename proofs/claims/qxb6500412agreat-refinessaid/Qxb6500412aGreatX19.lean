/-
  OWN WORK. TXN: Insert, Update, Tables, SchemaOf, New, Open, the schema calls (written by tools/gen_x19.py).
-/
import Derived.Test.Qxb6500412aGreatXP7
namespace Go.Proofs.Qxb6500412aGreat
open Go.RowKit Go.PlainAid
set_option linter.unusedSimpArgs false
set_option linter.unusedVariables false

section
variable {q : Gnd} {w : World} {g x : Nat} {X : Xs} {op : Bool} {S : Vu} {T : List (Tb × Hd)}
theorem Gnd.S_D {k : Nat} (h : q.S k) : q.D k := by
  rcases h with h | h
  · exact .inr (.inl h)
  · exact .inr (.inr h)
set_option maxRecDepth 100000 in
theorem xinsert_any (H : XR q w g x X op S) (L : Lay S T) (hl : ∀ s, s < 4 → (X.ws s).length ≤ 100 ∧ ∀ c ∈ X.ws s, c.d.row.length ≤ 1000) (s : Int) (nm : ByteArray) {ra : Option Addr} {rn rc : Nat} {row : List Vl} (hr : OwnV w (.slice ra rn rc) row) (hrq : ∀ k, (Value.slice ra rn rc).ownBlock = some k → ¬ q.S k) (hr4 : row.length ≤ 200) (hkw : ∀ c : Nat, (atV row (c : Int)).wf) : Calls Tryz.prog 170 #[.pointer (some ⟨g, 0, none⟩), .int .i64 s, .string nm, .slice ra rn rc] w (WrP q w g x X op S T s nm row true) := by
  have C1 := hide (xwrite_any H L hl s nm hr hrq hr4 (fun _ => trivial) hkw true)
  clear H hl hr hrq hr4 hkw L
  go_enter Tryz.func170, Tryz.ntmps170
  go_wp2_with fail
  refine (unhide C1).mono ?_
  intro e w1 h1
  obtain ⟨z, rfl⟩ : ∃ z, e = .returned (.int .i64 z) := by
    rcases h1 with ⟨z, he, _⟩ | ⟨_, _, _, z, _, _, _, _, he, _⟩ | ⟨_, _, _, _, _, _, _, he, _⟩
    · exact ⟨z, he⟩
    · exact ⟨z, he⟩
    · exact ⟨0, he⟩
  have FF := hide h1
  clear C1 h1
  go_wp2_with fail
  go_ret
  exact unhide FF
set_option maxRecDepth 100000 in
theorem xupdate_any (H : XR q w g x X op S) (L : Lay S T) (hl : ∀ s, s < 4 → (X.ws s).length ≤ 100 ∧ ∀ c ∈ X.ws s, c.d.row.length ≤ 1000) (s : Int) (nm : ByteArray) {ra : Option Addr} {rn rc : Nat} {row : List Vl} (hr : OwnV w (.slice ra rn rc) row) (hrq : ∀ k, (Value.slice ra rn rc).ownBlock = some k → ¬ q.S k) (hr4 : row.length ≤ 200) (hkw : ∀ c : Nat, (atV row (c : Int)).wf) : Calls Tryz.prog 252 #[.pointer (some ⟨g, 0, none⟩), .int .i64 s, .string nm, .slice ra rn rc] w (WrP q w g x X op S T s nm row false) := by
  have C1 := hide (xwrite_any H L hl s nm hr hrq hr4 (fun _ => trivial) hkw false)
  clear H hl hr hrq hr4 hkw L
  go_enter Tryz.func252, Tryz.ntmps252
  go_wp2_with fail
  refine (unhide C1).mono ?_
  intro e w1 h1
  obtain ⟨z, rfl⟩ : ∃ z, e = .returned (.int .i64 z) := by
    rcases h1 with ⟨z, he, _⟩ | ⟨_, _, _, z, _, _, _, _, he, _⟩ | ⟨_, _, _, _, _, _, _, he, _⟩
    · exact ⟨z, he⟩
    · exact ⟨z, he⟩
    · exact ⟨0, he⟩
  have FF := hide h1
  clear C1 h1
  go_wp2_with fail
  go_ret
  exact unhide FF
/-- What a schema call leaves. -/
inductive SxP (q : Gnd) (w : World) (g x : Nat) (X : Xs) (S : Vu) (s : Int) (R : Db × Int) (e : Ending) (w' : World) : Prop where
  | no (z : Int) (he : e = .returned (.int .i64 z)) (hz : AlE X s z) (h0 : z ≠ 0) (hx : XR q w' g x X false S) (ho : Only q.S w w')
  | err (he : e = .returned (.int .i64 R.2)) (hz : AlE X s 0) (h0 : R.2 ≠ 0) (hx : XR q w' g x X false S) (ho : Only q.S w w')
  | ok (he : e = .returned (.int .i64 0)) (hz : AlE X s 0) (h0 : R.2 = 0) (rs : List (Nat × ByteArray)) (com : List ByteArray) (wa : World) (S' : Vu) (T' : List (Tb × Hd)) (hx : XR (q.done rs com wa w') w' g x X false S') (hla : Lay S' T') (hd : dbOf T' = R.1) (hc : ComF com S') (hi : CutInv q.blk rs q.com com) (hw : w.heap.size ≤ wa.heap.size) (ho : Only q.D w w')
set_option maxRecDepth 100000 in
set_option maxHeartbeats 1000000 in
theorem xcreateT_any (H : XR q w g x X false S) (L : Lay S T) (hC : ComF q.com S) (hrc : q.recs.length ≤ 300) (s : Int) (nm : ByteArray) {cv : Value} {cols : List Cl} (hc : OwnC w cv cols) (hcq : ∀ k, cv.ownBlock = some k → ¬ q.S k) (hc4 : cols.length ≤ 100) (pk : Int) : Calls Tryz.prog 109 #[.pointer (some ⟨g, 0, none⟩), .int .i64 s, .string nm, cv, .int .i64 pk] w (SxP q w g x X S s (crtD (dbOf T) nm cols pk)) := by
  have C1 := hide (xalone_any H s)
  clear H
  obtain ⟨R, hR⟩ : ∃ R, crtD (dbOf T) nm cols pk = R := ⟨_, rfl⟩
  rw [hR]
  go_enter Tryz.func109, Tryz.ntmps109
  go_wp2_with fail
  refine (unhide C1).mono ?_
  rintro e w1 ⟨z, rfl, hz, hx, ho⟩
  clear C1
  by_cases h0 : z = 0
  · subst h0
    have hx : XR q w1 g x X true S := hx
    have c0 := hx.xm.has.c0
    have gl := hx.xm.has.lt
    have C2 := ecreateT_any hx.st L nm (hc.keep ho hcq) hcq hc4 pk
    rw [hR] at C2
    have C2 := hide C2
    have HX := hide hx
    have HO := hide ho
    have HZ := hide hz
    clear hx ho hz hc hcq hc4 hR
    obtain ⟨D', r⟩ := R
    go_wp2_with fail
    refine (unhide C2).mono ?_
    rintro e w2 ⟨rfl, ⟨S2, T2, st2, la2, hd2⟩, o2⟩
    have hx2 := (unhide HX).turn st2 o2
    have HO2 := hide ((unhide HO).trans o2 (fun _ _ h => h))
    have HLa := hide (And.intro la2 hd2)
    clear C2 c0 st2 la2 hd2 o2
    by_cases hr : r = 0
    · subst hr
      have C3 := hide (xseal_ok hx2 hrc)
      clear hx2
      go_wp2_with fail
      refine (unhide C3).mono ?_
      rintro e w3 ⟨rfl, rs, com, h3, cf, ci, o3⟩
      have FF := hide (show SxP q w g x X S s (D', 0) (.returned (.int .i64 0)) w3 from .ok rfl (unhide HZ) rfl rs com w2 S2 T2 h3 (unhide HLa).1 (unhide HLa).2 cf ci (unhide HO2).size (((unhide HO2).mono (T := q.D) (fun k _ h => Gnd.S_D h)).trans o3 (fun _ _ h => h)))
      clear C3 h3 cf ci o3
      go_wp2_with fail
      go_ret
      exact unhide FF
    · have C3 := hide (xseal_no hx2 hC hr)
      clear hx2
      go_wp2_with fail
      refine (unhide C3).mono ?_
      rintro e w3 ⟨rfl, h3, o3⟩
      have FF := hide (show SxP q w g x X S s (D', r) (.returned (.int .i64 r)) w3 from .err rfl (unhide HZ) hr h3 ((unhide HO2).trans o3 (fun _ _ h => h)))
      clear C3 h3 o3
      go_wp2_with fail
      go_ret
      exact unhide FF
  · have e0 : (z != 0) = true := by simpa using h0
    rw [decide_eq_false h0] at hx
    have FF := hide (show SxP q w g x X S s R (.returned (.int .i64 z)) w1 from .no z rfl hz h0 hx ho)
    clear hz hx ho h0
    go_wp2_with fail
    go_ret
    exact unhide FF
set_option maxRecDepth 100000 in
set_option maxHeartbeats 1000000 in
theorem xdropT_any (H : XR q w g x X false S) (L : Lay S T) (hC : ComF q.com S) (hrc : q.recs.length ≤ 300) (s : Int) (nm : ByteArray) : Calls Tryz.prog 110 #[.pointer (some ⟨g, 0, none⟩), .int .i64 s, .string nm] w (SxP q w g x X S s (drpD (dbOf T) nm)) := by
  have C1 := hide (xalone_any H s)
  clear H
  obtain ⟨R, hR⟩ : ∃ R, drpD (dbOf T) nm = R := ⟨_, rfl⟩
  rw [hR]
  go_enter Tryz.func110, Tryz.ntmps110
  go_wp2_with fail
  refine (unhide C1).mono ?_
  rintro e w1 ⟨z, rfl, hz, hx, ho⟩
  clear C1
  by_cases h0 : z = 0
  · subst h0
    have hx : XR q w1 g x X true S := hx
    have c0 := hx.xm.has.c0
    have gl := hx.xm.has.lt
    have C2 := edropT_open hx.st L nm
    rw [hR] at C2
    have C2 := hide C2
    have HX := hide hx
    have HO := hide ho
    have HZ := hide hz
    clear hx ho hz hR
    obtain ⟨D', r⟩ := R
    go_wp2_with fail
    refine (unhide C2).mono ?_
    rintro e w2 ⟨rfl, ⟨S2, T2, st2, la2, hd2⟩, o2⟩
    have hx2 := (unhide HX).turn st2 o2
    have HO2 := hide ((unhide HO).trans o2 (fun _ _ h => h))
    have HLa := hide (And.intro la2 hd2)
    clear C2 c0 st2 la2 hd2 o2
    by_cases hr : r = 0
    · subst hr
      have C3 := hide (xseal_ok hx2 hrc)
      clear hx2
      go_wp2_with fail
      refine (unhide C3).mono ?_
      rintro e w3 ⟨rfl, rs, com, h3, cf, ci, o3⟩
      have FF := hide (show SxP q w g x X S s (D', 0) (.returned (.int .i64 0)) w3 from .ok rfl (unhide HZ) rfl rs com w2 S2 T2 h3 (unhide HLa).1 (unhide HLa).2 cf ci (unhide HO2).size (((unhide HO2).mono (T := q.D) (fun k _ h => Gnd.S_D h)).trans o3 (fun _ _ h => h)))
      clear C3 h3 cf ci o3
      go_wp2_with fail
      go_ret
      exact unhide FF
    · have C3 := hide (xseal_no hx2 hC hr)
      clear hx2
      go_wp2_with fail
      refine (unhide C3).mono ?_
      rintro e w3 ⟨rfl, h3, o3⟩
      have FF := hide (show SxP q w g x X S s (D', r) (.returned (.int .i64 r)) w3 from .err rfl (unhide HZ) hr h3 ((unhide HO2).trans o3 (fun _ _ h => h)))
      clear C3 h3 o3
      go_wp2_with fail
      go_ret
      exact unhide FF
  · have e0 : (z != 0) = true := by simpa using h0
    rw [decide_eq_false h0] at hx
    have FF := hide (show SxP q w g x X S s R (.returned (.int .i64 z)) w1 from .no z rfl hz h0 hx ho)
    clear hz hx ho h0
    go_wp2_with fail
    go_ret
    exact unhide FF
set_option maxRecDepth 100000 in
set_option maxHeartbeats 1000000 in
theorem xcreateI_any (H : XR q w g x X false S) (L : Lay S T) (hC : ComF q.com S) (hrc : q.recs.length ≤ 300) (s : Int) (nm : ByteArray) (col : Int) : Calls Tryz.prog 112 #[.pointer (some ⟨g, 0, none⟩), .int .i64 s, .string nm, .int .i64 col] w (SxP q w g x X S s (cixD (dbOf T) nm col)) := by
  have C1 := hide (xalone_any H s)
  clear H
  obtain ⟨R, hR⟩ : ∃ R, cixD (dbOf T) nm col = R := ⟨_, rfl⟩
  rw [hR]
  go_enter Tryz.func112, Tryz.ntmps112
  go_wp2_with fail
  refine (unhide C1).mono ?_
  rintro e w1 ⟨z, rfl, hz, hx, ho⟩
  clear C1
  by_cases h0 : z = 0
  · subst h0
    have hx : XR q w1 g x X true S := hx
    have c0 := hx.xm.has.c0
    have gl := hx.xm.has.lt
    have C2 := ecreateI_open hx.st L nm col
    rw [hR] at C2
    have C2 := hide C2
    have HX := hide hx
    have HO := hide ho
    have HZ := hide hz
    clear hx ho hz hR
    obtain ⟨D', r⟩ := R
    go_wp2_with fail
    refine (unhide C2).mono ?_
    rintro e w2 ⟨rfl, ⟨S2, T2, st2, la2, hd2⟩, o2⟩
    have hx2 := (unhide HX).turn st2 o2
    have HO2 := hide ((unhide HO).trans o2 (fun _ _ h => h))
    have HLa := hide (And.intro la2 hd2)
    clear C2 c0 st2 la2 hd2 o2
    by_cases hr : r = 0
    · subst hr
      have C3 := hide (xseal_ok hx2 hrc)
      clear hx2
      go_wp2_with fail
      refine (unhide C3).mono ?_
      rintro e w3 ⟨rfl, rs, com, h3, cf, ci, o3⟩
      have FF := hide (show SxP q w g x X S s (D', 0) (.returned (.int .i64 0)) w3 from .ok rfl (unhide HZ) rfl rs com w2 S2 T2 h3 (unhide HLa).1 (unhide HLa).2 cf ci (unhide HO2).size (((unhide HO2).mono (T := q.D) (fun k _ h => Gnd.S_D h)).trans o3 (fun _ _ h => h)))
      clear C3 h3 cf ci o3
      go_wp2_with fail
      go_ret
      exact unhide FF
    · have C3 := hide (xseal_no hx2 hC hr)
      clear hx2
      go_wp2_with fail
      refine (unhide C3).mono ?_
      rintro e w3 ⟨rfl, h3, o3⟩
      have FF := hide (show SxP q w g x X S s (D', r) (.returned (.int .i64 r)) w3 from .err rfl (unhide HZ) hr h3 ((unhide HO2).trans o3 (fun _ _ h => h)))
      clear C3 h3 o3
      go_wp2_with fail
      go_ret
      exact unhide FF
  · have e0 : (z != 0) = true := by simpa using h0
    rw [decide_eq_false h0] at hx
    have FF := hide (show SxP q w g x X S s R (.returned (.int .i64 z)) w1 from .no z rfl hz h0 hx ho)
    clear hz hx ho h0
    go_wp2_with fail
    go_ret
    exact unhide FF

/-- The fresh manager. -/
def Xs0 : Xs := ⟨fun _ => false, fun _ => false, fun _ => ⟨#[]⟩, fun _ _ => 0, fun _ => .slice none 0 0, fun _ => []⟩
theorem xs0_cells (t : Nat) : tabV 27 (xcell t Xs0) = #[.pointer (some ⟨t, 0, none⟩), .bool false, .bool false, .bool false, .bool false, .bool false, .string ⟨#[]⟩, .int .i64 0, .int .i64 0, .int .i64 0, .int .i64 0, .bool false, .string ⟨#[]⟩, .int .i64 0, .int .i64 0, .int .i64 0, .int .i64 0, .bool false, .string ⟨#[]⟩, .int .i64 0, .int .i64 0, .int .i64 0, .int .i64 0, .slice none 0 0, .slice none 0 0, .slice none 0 0, .slice none 0 0] := rfl
set_option maxRecDepth 100000 in
theorem xnew_any (t : Nat) (w : World) : Calls Tryz.prog 34 #[.pointer (some ⟨t, 0, none⟩)] w fun e w' => ∃ g, e = .returned (.pointer (some ⟨g, 0, none⟩)) ∧ w.heap.size ≤ g ∧ XM w' g t Xs0 ∧ Only (fun _ => False) w w' := by
  have N := Has.new w (tabV 27 (xcell t Xs0)) 134
  have O : Only (fun _ => False) w (w.alloc (.cells (tabV 27 (xcell t Xs0)) 134)) := (Only.refl _ w).alloc _
  have FF := hide (show ∃ g, (Ending.returned (.pointer (some ⟨w.heap.size, 0, none⟩))) = .returned (.pointer (some ⟨g, 0, none⟩)) ∧ w.heap.size ≤ g ∧ XM (w.alloc (.cells (tabV 27 (xcell t Xs0)) 134)) g t Xs0 ∧ Only (fun _ => False) w (w.alloc (.cells (tabV 27 (xcell t Xs0)) 134)) from ⟨_, rfl, Nat.le_refl _, ⟨N, fun s _ => WL.nil _, fun s r _ _ _ k h => by cases h⟩, O⟩)
  rw [xs0_cells] at FF
  clear N O
  go_enter Tryz.func34, Tryz.ntmps34
  go_wp2_with fail
  go_ret
  exact unhide FF
set_option maxRecDepth 100000 in
theorem xopen_any (t : Nat) (w : World) : Calls Tryz.prog 45 #[.pointer (some ⟨t, 0, none⟩)] w fun e w' => ∃ g, e = .returned (.pointer (some ⟨g, 0, none⟩)) ∧ w.heap.size ≤ g ∧ XM w' g t Xs0 ∧ Only (fun _ => False) w w' := by
  have N := Has.new w (tabV 27 (xcell t Xs0)) 134
  have O : Only (fun _ => False) w (w.alloc (.cells (tabV 27 (xcell t Xs0)) 134)) := (Only.refl _ w).alloc _
  have FF := hide (show ∃ g, (Ending.returned (.pointer (some ⟨w.heap.size, 0, none⟩))) = .returned (.pointer (some ⟨g, 0, none⟩)) ∧ w.heap.size ≤ g ∧ XM (w.alloc (.cells (tabV 27 (xcell t Xs0)) 134)) g t Xs0 ∧ Only (fun _ => False) w (w.alloc (.cells (tabV 27 (xcell t Xs0)) 134)) from ⟨_, rfl, Nat.le_refl _, ⟨N, fun s _ => WL.nil _, fun s r _ _ _ k h => by cases h⟩, O⟩)
  rw [xs0_cells] at FF
  clear N O
  go_enter Tryz.func45, Tryz.ntmps45
  go_wp2_with fail
  go_ret
  exact unhide FF
/-- Tables. -/
theorem xtables_any (H : XR q w g x X op S) (L : Lay S T) : Calls Tryz.prog 80 #[.pointer (some ⟨g, 0, none⟩)] w fun e w' => ∃ v, e = .returned v ∧ OwnN w' v (namesD (dbOf T)) ∧ Newer w v ∧ XR q w' g x X op S ∧ Only q.S w w' := by
  have c0 := H.xm.has.c0
  have gl := H.xm.has.lt
  have C1 := hide (etables_any H.st L)
  have HX := hide H
  clear H
  go_enter Tryz.func80, Tryz.ntmps80
  go_wp2_with fail
  refine (unhide C1).mono ?_
  rintro e w1 ⟨v, rfl, h1, h2, h3, o1⟩
  have FF := hide (show OwnN w1 v (namesD (dbOf T)) ∧ Newer w v ∧ XR q w1 g x X op S ∧ Only q.S w w1 from ⟨by unfold namesD dbOf; rw [List.map_map]; exact h1, h2, (unhide HX).turn h3 o1, o1⟩)
  clear C1 h1 h2 h3 o1 c0
  go_wp2_with fail
  go_ret
  exact ⟨v, rfl, unhide FF⟩
/-- SchemaOf. -/
inductive SoP (q : Gnd) (w : World) (g x : Nat) (X : Xs) (op : Bool) (S : Vu) (D : Db) (nm : ByteArray) (e : Ending) (w' : World) : Prop where
  | no (hf : findD D nm = none) (he : e = .returned (.tuple #[.agg scN, .int .i64 10])) (hx : XR q w' g x X op S) (ho : Only q.S w w')
  | yes (t : Tb) (hf : findD D nm = some t) (cv : Value) (he : e = .returned (.tuple #[.agg (scC t.nm cv (t.pk : Int) (ixI t.ix)), .int .i64 0])) (hc : OwnC w' cv t.cols) (hn : Newer w cv) (hx : XR q w' g x X op S) (ho : Only q.S w w')
set_option maxRecDepth 100000 in
theorem xschemaOf_any (H : XR q w g x X op S) (L : Lay S T) (nm : ByteArray) : Calls Tryz.prog 81 #[.pointer (some ⟨g, 0, none⟩), .string nm] w (SoP q w g x X op S (dbOf T) nm) := by
  have o0 : Only (fun _ => False) w (w.alloc (.cells #[.string ⟨#[]⟩, .slice none 0 0, .int .i64 0, .int .i64 0] 79)) := (Only.refl _ w).alloc _
  have NK := Has.new w #[.string ⟨#[]⟩, .slice none 0 0, .int .i64 0, .int .i64 0] 79
  have H0 := H.quiet o0
  have HSn := hide (H.st.new (k := w.heap.size) (Nat.le_refl _))
  have HKg := hide (show ∀ k, X.bl q g x k → k ≠ w.heap.size from fun k hk => by have := H.blt hk; omega)
  have c0 := H0.xm.has.c0
  have gl := H0.xm.has.lt
  have HO := hide o0
  have HNK := hide NK
  have hgw : g < w.heap.size := H.xm.has.lt
  cases hf : findD (dbOf T) nm with
  | none =>
    have C1 := hide (eschemaOf_no H0.st L (find_none hf))
    have Hf := hide hf
    have HX := hide H0
    clear H H0 NK o0 hf
    go_enter Tryz.func81, Tryz.ntmps81
    go_upto_region 1 with fail
    generalize w.alloc (.cells #[.string ⟨#[]⟩, .slice none 0 0, .int .i64 0, .int .i64 0] 79) = w0 at *
    have s0 := (unhide HO).size
    generalize hk : w.heap.size = kk at *
    have k0l := (unhide HNK).lt
    go_wp2_with fail
    refine (unhide C1).mono ?_
    rintro e w1 ⟨rfl, h1, o1⟩
    have N1 := (unhide HNK).keep o1 (unhide HSn)
    have hx1 := (unhide HX).turn h1 o1
    have hl1 := N1.lt
    have s1 := o1.size
    have B5 := ((((N1.setCell 0 (.string ⟨#[]⟩)).setCell 1 (.slice none 0 0)).setCell 2 (.int .i64 0)).setCell 3 (.int .i64 (-1)))
    have oo : Only (fun k => k = kk) w1 ((((w1.setCell ⟨kk, 0, none⟩ (.string ⟨#[]⟩)).setCell ⟨kk, 1, none⟩ (.slice none 0 0)).setCell ⟨kk, 2, none⟩ (.int .i64 0)).setCell ⟨kk, 3, none⟩ (.int .i64 (-1))) := (((only1 (p := kk) _ _).trans (only1 (p := kk) _ _) (fun _ _ h => h)).trans (only1 (p := kk) _ _) (fun _ _ h => h)).trans (only1 (p := kk) _ _) (fun _ _ h => h)
    have x5 := hx1.far oo (unhide HKg)
    have on5 : Only q.S w ((((w1.setCell ⟨kk, 0, none⟩ (.string ⟨#[]⟩)).setCell ⟨kk, 1, none⟩ (.slice none 0 0)).setCell ⟨kk, 2, none⟩ (.int .i64 0)).setCell ⟨kk, 3, none⟩ (.int .i64 (-1))) := (((unhide HO).mono (T := fun k => q.S k ∨ k = kk) (fun _ _ h => h.elim)).trans (o1.mono (T := fun k => q.S k ∨ k = kk) (fun _ _ h => .inl h)) (fun _ _ h => h)).trans (oo.mono (T := fun k => q.S k ∨ k = kk) (fun _ _ h => .inr h)) (fun _ _ h => h) |>.mono (fun k hl h => h.elim id (fun e => by omega))
    have FF := hide (show SoP q w g x X op S (dbOf T) nm (.returned (.tuple #[.agg #[.string ⟨#[]⟩, .slice none 0 0, .int .i64 0, .int .i64 (-1)], .int .i64 10])) ((((w1.setCell ⟨kk, 0, none⟩ (.string ⟨#[]⟩)).setCell ⟨kk, 1, none⟩ (.slice none 0 0)).setCell ⟨kk, 2, none⟩ (.int .i64 0)).setCell ⟨kk, 3, none⟩ (.int .i64 (-1))) from .no (unhide Hf) rfl x5 on5)
    have f0 := N1.free 0
    have f1 := N1.free 1
    have f2 := N1.free 2
    have f3 := N1.free 3
    have n0 := N1.cell 0
    have n1 := N1.cell 1
    have n2 := N1.cell 2
    have n3 := N1.cell 3
    simp at n0 n1 n2 n3
    have HB := hide B5
    clear C1 h1 o1 c0 N1 hx1 B5 oo x5 on5
    unfold scN
    go_wp2_with fail
    exact bodyPost_ret (res2_sch Tryz.results81 _ rfl (unhide HB) rfl) rfl (unhide FF)
  | some t =>
    obtain ⟨hd, hm, hn⟩ := find_some hf
    have C1 := hide (by have := eschemaOf_yes H0.st L hm; rw [hn] at this; exact this)
    have Hf := hide (And.intro hf hn)
    clear hm hn
    have HX := hide H0
    clear H H0 NK o0 hf
    go_enter Tryz.func81, Tryz.ntmps81
    go_upto_region 1 with fail
    generalize w.alloc (.cells #[.string ⟨#[]⟩, .slice none 0 0, .int .i64 0, .int .i64 0] 79) = w0 at *
    have s0 := (unhide HO).size
    generalize hk : w.heap.size = kk at *
    have k0l := (unhide HNK).lt
    go_wp2_with fail
    refine (unhide C1).mono ?_
    rintro e w1 ⟨cv, rfl, hc1, hn1, h1, o1⟩
    obtain ⟨ca, cc, rfl⟩ := hc1.shape
    have hcl := hc1.lt
    have HC := hide (And.intro hc1 hn1)
    clear hc1 hn1
    have N1 := (unhide HNK).keep o1 (unhide HSn)
    have hx1 := (unhide HX).turn h1 o1
    have hl1 := N1.lt
    have s1 := o1.size
    have B5 := ((((N1.setCell 0 (.string nm)).setCell 1 (.slice ca t.cols.length cc)).setCell 2 (.int .i64 (t.pk : Int))).setCell 3 (.int .i64 (ixI t.ix)))
    have oo : Only (fun k => k = kk) w1 ((((w1.setCell ⟨kk, 0, none⟩ (.string nm)).setCell ⟨kk, 1, none⟩ (.slice ca t.cols.length cc)).setCell ⟨kk, 2, none⟩ (.int .i64 (t.pk : Int))).setCell ⟨kk, 3, none⟩ (.int .i64 (ixI t.ix))) := (((only1 (p := kk) _ _).trans (only1 (p := kk) _ _) (fun _ _ h => h)).trans (only1 (p := kk) _ _) (fun _ _ h => h)).trans (only1 (p := kk) _ _) (fun _ _ h => h)
    have x5 := hx1.far oo (unhide HKg)
    have on5 : Only q.S w ((((w1.setCell ⟨kk, 0, none⟩ (.string nm)).setCell ⟨kk, 1, none⟩ (.slice ca t.cols.length cc)).setCell ⟨kk, 2, none⟩ (.int .i64 (t.pk : Int))).setCell ⟨kk, 3, none⟩ (.int .i64 (ixI t.ix))) := (((unhide HO).mono (T := fun k => q.S k ∨ k = kk) (fun _ _ h => h.elim)).trans (o1.mono (T := fun k => q.S k ∨ k = kk) (fun _ _ h => .inl h)) (fun _ _ h => h)).trans (oo.mono (T := fun k => q.S k ∨ k = kk) (fun _ _ h => .inr h)) (fun _ _ h => h) |>.mono (fun k hl h => h.elim id (fun e => by omega))
    have FF := hide (show SoP q w g x X op S (dbOf T) nm (.returned (.tuple #[.agg #[.string nm, .slice ca t.cols.length cc, .int .i64 (t.pk : Int), .int .i64 (ixI t.ix)], .int .i64 0])) ((((w1.setCell ⟨kk, 0, none⟩ (.string nm)).setCell ⟨kk, 1, none⟩ (.slice ca t.cols.length cc)).setCell ⟨kk, 2, none⟩ (.int .i64 (t.pk : Int))).setCell ⟨kk, 3, none⟩ (.int .i64 (ixI t.ix))) from .yes t (unhide Hf).1 (.slice ca t.cols.length cc) (by unfold scC; rw [(unhide Hf).2]) ((unhide HC).1.keep oo (fun k hq e => by have h : w0.heap.size ≤ k := (unhide HC).2 k hq; omega)) (fun k hq => by have h : w0.heap.size ≤ k := (unhide HC).2 k hq; omega) x5 on5)
    have f0 := N1.free 0
    have f1 := N1.free 1
    have f2 := N1.free 2
    have f3 := N1.free 3
    have n0 := N1.cell 0
    have n1 := N1.cell 1
    have n2 := N1.cell 2
    have n3 := N1.cell 3
    simp at n0 n1 n2 n3
    have HB := hide B5
    clear C1 h1 o1 c0 N1 hx1 B5 oo x5 on5 HC
    unfold scC
    go_wp2_with fail
    exact bodyPost_ret (res2_sch Tryz.results81 _ rfl (unhide HB) rfl) rfl (unhide FF)
end
end Go.Proofs.Qxb6500412aGreat
