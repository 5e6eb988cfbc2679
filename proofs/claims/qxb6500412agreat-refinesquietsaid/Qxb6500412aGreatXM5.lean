/-
  OWN WORK. TXN's MODEL: api.Multi: the schema calls; Insert, Update, Delete (written by tools/gen_xm5.py).
-/
import Derived.Test.Qxb6500412aGreatXM4
namespace Go.Proofs.Qxb6500412aGreat
open Go.RowKit Go.PlainAid
set_option linter.unusedSimpArgs false
set_option linter.unusedVariables false

theorem onT_err {D : Db} {nm : ByteArray} {f : Tb → Tb × Int} (h : (onT D nm f).2 ≠ 0) : (onT D nm f).1 = D := by
  unfold onT at h ⊢
  cases c : findD D nm with
  | none => rfl
  | some t =>
    rw [c] at h
    simp only at h ⊢
    rw [if_neg h]
theorem drpD_err {D : Db} {nm : ByteArray} (h : (drpD D nm).2 ≠ 0) : (drpD D nm).1 = D := by
  unfold drpD at h ⊢
  cases c : findD D nm with
  | none => rfl
  | some t => rw [c] at h; exact absurd rfl h
theorem crtD_err {D : Db} {nm : ByteArray} {cols : List Cl} {pk : Int} (h : (crtD D nm cols pk).2 ≠ 0) : (crtD D nm cols pk).1 = D := by
  unfold crtD at h ⊢
  by_cases c1 : ¬ gdN nm
  · rw [if_pos c1]
  · rw [if_neg c1] at h ⊢
    by_cases c2 : ¬ GdC cols pk
    · rw [if_pos c2]
    · rw [if_neg c2] at h ⊢
      cases c : findD D nm with
      | some _ => rfl
      | none =>
        rw [c] at h
        simp only at h ⊢
        by_cases c3 : 3 ≤ D.length
        · rw [if_pos c3]
        · rw [if_neg c3] at h; exact absurd rfl h
theorem cixD_err {D : Db} {nm : ByteArray} {col : Int} (h : (cixD D nm col).2 ≠ 0) : (cixD D nm col).1 = D := onT_err h
section
variable {w w' : World} {k : Nat} {Z : Mm} {M : Mu} {H : Nat → Prop}
theorem MmS.same {Z' : Mm} (h : MmS Z M) (ha : Z'.act = Z.act) (hk : Z'.lk = Z.lk) (hd : ∀ j, j < 5 → Z'.db j = Z.db j) : MmS Z' M :=
  ⟨by rw [hd 0 (by omega)]; exact h.com, fun j hj => by rw [hd j hj]; exact h.ok j hj, fun s hs => by rw [ha]; exact h.act s hs, fun s i t hs hi => by rw [hk]; exact h.lk s i t hs hi, h.lk0, fun s hs c => by rw [hd (1 + s) (by omega)]; exact h.nms s hs c, fun s i hs hi c => by rw [hk]; exact h.idle s i hs hi c, fun s hs => by rw [hd (1 + s) (by omega)]; exact h.see s hs⟩
/-- One of its databases, as the calls on a database want it. -/
theorem MMt.mdc (h : MMt w k Z) {j o : Nat} (hj : j < 5) (ho : offM j = o) (hD : DOk (Z.db j)) : MDc 113 w k o (tabV 21 (mmC Z)) (Z.v j) (Z.l j) (Z.db j) :=
  ⟨stoM, h.has, by rw [← ho, tabV_get _ _ _ (offM_lt hj), mmC_off hj], h.ml j hj, rfl, hD⟩
theorem MMt.mdP (h : MMt w k Z) {j o : Nat} (hj : j < 5) (ho : offM j = o) {D' : Db} {z : Int} {x : Ending} (hp : MdP 113 w k o (tabV 21 (mmC Z)) (Z.v j) (Z.l j) D' z x w') : ∃ v' l', x = .returned (.int .i64 z) ∧ MMt w' k (Z.setV j v' l') ∧ l'.map (·.t) = D' ∧ DOk D' ∧ (∀ b, (Z.setV j v' l').A k b → Z.A k b ∨ w.heap.size ≤ b) ∧ Only (fun b => Z.A k b) w w' := by
  obtain ⟨v', l', hx, hM, hm, hi, oo⟩ := hp
  have hh := hM.has
  rw [← ho] at hh
  refine ⟨v', l', hx, h.setV hj oo (fun b hb => hb) hh hM.ml hm, hM.tt, hM.ok, fun b hb => ?_, oo.mono (fun b _ hb => ?_)⟩
  · rcases Mm.setV_A hb with c | c | c
    · exact .inl c
    · exact (hm b c).imp (fun d => .inl (.inr ⟨j, hj, d⟩)) id
    · exact (hi b c).imp (fun d => .inr ⟨j, hj, d⟩) id
  · rcases hb with c | c
    · exact .inl (.inl c)
    · exact .inl (.inr ⟨j, hj, c⟩)
/-- What a schema call of the model leaves. -/
def MsP (w : World) (k : Nat) (M : Mu) (H : Nat → Prop) (s : Int) (R : Db × Int) (e : Ending) (w' : World) : Prop :=
  (∃ z, e = .returned (.int .i64 z) ∧ z ≠ 0 ∧ (M.AlZ s z ∨ (M.AlZ s 0 ∧ z = R.2)) ∧ MX w' k M (Ext H w w') ∧ Only H w w') ∨ (e = .returned (.int .i64 0) ∧ M.AlZ s 0 ∧ R.2 = 0 ∧ MX w' k (M.schema R.1) (Ext H w w') ∧ Only H w w')
theorem MX.self (X : MX w k M H) : MX w k M (Ext H w w) ∧ Only H w w := ⟨X.mono (fun b hb => .inl hb) (Ext.in X.lt (Nat.le_refl _)), Only.refl _ _⟩
theorem AlZ_any {s : Int} (h : M.AlZ s 0) : ¬ M.any := by
  rcases h with ⟨_, h⟩ | ⟨_, _, h⟩ | ⟨_, _, _, h⟩ | ⟨_, h, _⟩
  · cases h
  · cases h
  · cases h
  · exact h
theorem MX.schema (X : MX w k M H) {s : Int} (ha : M.AlZ s 0) {R : Db × Int} (hR : R.2 ≠ 0 → R.1 = M.com) (h : MMt w k Z) (hS : MmS Z M) (hA : ∀ b, Z.A k b → H b) {x : Ending} (hp : MdP 113 w k 0 (tabV 21 (mmC Z)) (Z.v 0) (Z.l 0) R.1 R.2 x w') : MsP w k M H s R x w' := by
  obtain ⟨v', l', rfl, hM, ht, hD, hb, oo⟩ := h.mdP (j := 0) (by omega) rfl hp
  by_cases z0 : R.2 = 0
  · refine .inr ⟨by rw [z0], ha, z0, X.turn hM (hS.schema (AlZ_any ha) ht hD) (fun b c => (hb b c).imp (hA b) id) oo hA⟩
  · refine .inl ⟨R.2, rfl, z0, .inr ⟨ha, rfl⟩, X.turn hM (hS.same rfl rfl (fun j hj => ?_)) (fun b c => (hb b c).imp (hA b) id) oo hA⟩
    rw [Mm.setV_db]
    by_cases c : j = 0
    · rw [if_pos c, ht, hR z0, ← hS.com, c]
    · rw [if_neg c]
set_option maxRecDepth 100000 in
set_option maxHeartbeats 4000000 in
theorem xmcreate_any (X : MX w k M H) (s : Int) (nm : ByteArray) {cv : Value} {cols : List Cl} (C : OwnC w cv cols) (pk : Int) : Calls Tryz.prog 188 #[.pointer (some ⟨k, 0, none⟩), .int .i64 s, .string nm, cv, .int .i64 pk] w (MsP w k M H s (crtD M.com nm cols pk)) := by
  have CA := hide (xmalone_any X s)
  have HX := hide X
  obtain ⟨Z, h, hS, hA⟩ := X.ex
  have hc := h.mdc (j := 0) (o := 0) (by omega) rfl (hS.ok 0 (by omega))
  have C2 := mdbCreate_any hc nm C pk
  rw [hS.com] at C2
  have HK := hide (fun (ha : M.AlZ s 0) (x : Ending) (w' : World) (hp : MdP 113 w k 0 (tabV 21 (mmC Z)) (Z.v 0) (Z.l 0) (crtD M.com nm cols pk).1 (crtD M.com nm cols pk).2 x w') => show MsP w k M H s (crtD M.com nm cols pk) x w' from MX.schema (unhide HX) ha (fun e => crtD_err e) h hS hA hp)
  have C2 := hide C2
  have kl := h.has.lt
  clear X h hS hA hc C
  go_enter Tryz.func188, Tryz.ntmps188
  go_wp2_with fail
  refine (unhide CA).mono ?_
  rintro e w2 ⟨z, rfl, hz, rfl⟩
  clear CA
  by_cases z0 : z = 0
  · subst z0
    have HZ := hide hz
    clear hz
    go_wp2_with fail
    refine (unhide C2).mono ?_
    intro x w3 hp
    have FF := hide (unhide HK (unhide HZ) x w3 hp)
    obtain ⟨v', l', rfl, _⟩ := hp
    clear C2 HK HZ
    go_wp2_with fail
    go_ret
    exact unhide FF
  · have b0 : (z != 0) = true := by simpa using z0
    have FF := hide (show MsP w k M H s (crtD M.com nm cols pk) (.returned (.int .i64 z)) w from .inl ⟨z, rfl, z0, .inl hz, (unhide HX).self⟩)
    clear C2 HK hz z0
    go_wp2_with fail
    go_ret
    exact unhide FF
set_option maxRecDepth 100000 in
set_option maxHeartbeats 4000000 in
theorem xmdrop_any (X : MX w k M H) (s : Int) (nm : ByteArray) : Calls Tryz.prog 189 #[.pointer (some ⟨k, 0, none⟩), .int .i64 s, .string nm] w (MsP w k M H s (drpD M.com nm)) := by
  have CA := hide (xmalone_any X s)
  have HX := hide X
  obtain ⟨Z, h, hS, hA⟩ := X.ex
  have hc := h.mdc (j := 0) (o := 0) (by omega) rfl (hS.ok 0 (by omega))
  have C2 := mdbDrop_any hc nm
  rw [hS.com] at C2
  have HK := hide (fun (ha : M.AlZ s 0) (x : Ending) (w' : World) (hp : MdP 113 w k 0 (tabV 21 (mmC Z)) (Z.v 0) (Z.l 0) (drpD M.com nm).1 (drpD M.com nm).2 x w') => show MsP w k M H s (drpD M.com nm) x w' from MX.schema (unhide HX) ha (fun e => drpD_err e) h hS hA hp)
  have C2 := hide C2
  have kl := h.has.lt
  clear X h hS hA hc
  go_enter Tryz.func189, Tryz.ntmps189
  go_wp2_with fail
  refine (unhide CA).mono ?_
  rintro e w2 ⟨z, rfl, hz, rfl⟩
  clear CA
  by_cases z0 : z = 0
  · subst z0
    have HZ := hide hz
    clear hz
    go_wp2_with fail
    refine (unhide C2).mono ?_
    intro x w3 hp
    have FF := hide (unhide HK (unhide HZ) x w3 hp)
    obtain ⟨v', l', rfl, _⟩ := hp
    clear C2 HK HZ
    go_wp2_with fail
    go_ret
    exact unhide FF
  · have b0 : (z != 0) = true := by simpa using z0
    have FF := hide (show MsP w k M H s (drpD M.com nm) (.returned (.int .i64 z)) w from .inl ⟨z, rfl, z0, .inl hz, (unhide HX).self⟩)
    clear C2 HK hz z0
    go_wp2_with fail
    go_ret
    exact unhide FF
set_option maxRecDepth 100000 in
set_option maxHeartbeats 4000000 in
theorem xmindex_any (X : MX w k M H) (s : Int) (nm : ByteArray) (col : Int) : Calls Tryz.prog 274 #[.pointer (some ⟨k, 0, none⟩), .int .i64 s, .string nm, .int .i64 col] w (MsP w k M H s (cixD M.com nm col)) := by
  have CA := hide (xmalone_any X s)
  have HX := hide X
  obtain ⟨Z, h, hS, hA⟩ := X.ex
  have hc := h.mdc (j := 0) (o := 0) (by omega) rfl (hS.ok 0 (by omega))
  have C2 := mdbIndex_any hc nm col
  rw [hS.com] at C2
  have HK := hide (fun (ha : M.AlZ s 0) (x : Ending) (w' : World) (hp : MdP 113 w k 0 (tabV 21 (mmC Z)) (Z.v 0) (Z.l 0) (cixD M.com nm col).1 (cixD M.com nm col).2 x w') => show MsP w k M H s (cixD M.com nm col) x w' from MX.schema (unhide HX) ha (fun e => cixD_err e) h hS hA hp)
  have C2 := hide C2
  have kl := h.has.lt
  clear X h hS hA hc
  go_enter Tryz.func274, Tryz.ntmps274
  go_wp2_with fail
  refine (unhide CA).mono ?_
  rintro e w2 ⟨z, rfl, hz, rfl⟩
  clear CA
  by_cases z0 : z = 0
  · subst z0
    have HZ := hide hz
    clear hz
    go_wp2_with fail
    refine (unhide C2).mono ?_
    intro x w3 hp
    have FF := hide (unhide HK (unhide HZ) x w3 hp)
    obtain ⟨v', l', rfl, _⟩ := hp
    clear C2 HK HZ
    go_wp2_with fail
    go_ret
    exact unhide FF
  · have b0 : (z != 0) = true := by simpa using z0
    have FF := hide (show MsP w k M H s (cixD M.com nm col) (.returned (.int .i64 z)) w from .inl ⟨z, rfl, z0, .inl hz, (unhide HX).self⟩)
    clear C2 HK hz z0
    go_wp2_with fail
    go_ret
    exact unhide FF
/-- What a change of a session leaves. -/
def MwP (w : World) (k : Nat) (M : Mu) (H : Nat → Prop) (s : Int) (nm : ByteArray) (f : Db → Db × Int) (e : Ending) (w' : World) : Prop :=
  (∃ z, e = .returned (.int .i64 z) ∧ z ≠ 0 ∧ M.TkZ s nm 2 z ∧ MX w' k M (Ext H w w') ∧ Only H w w') ∨ (∃ z, e = .returned (.int .i64 z) ∧ M.TkZ s nm 2 0 ∧ z = (f (M.see s.toNat)).2 ∧ MX w' k ((M.setL s.toNat nm 2).setV s.toNat (f (M.see s.toNat)).1) (Ext H w w') ∧ Only H w w')
theorem setL2 (ok : MuOk M) {n : Nat} (hn : n < 4) (nm : ByteArray) : (M.setL n nm 2).lk n nm = 2 := by
  rw [setL_lk]
  by_cases c : M.lk n nm < 2
  · rw [if_pos ⟨rfl, c⟩]
  · rw [if_neg (fun x => c x.2)]
    have := ok.rg n nm hn
    omega
theorem TkZ_good {s : Int} {nm : ByteArray} {mode : Int} (h : M.TkZ s nm mode 0) : ∃ n : Nat, s = n ∧ n < 4 := by
  have hi : M.inT s = 0 := by
    rcases h with ⟨h, e⟩ | ⟨_, _, e⟩ | ⟨_, _, _, e⟩ | ⟨h, _⟩
    · exact absurd e.symm h
    · cases e
    · cases e
    · exact h
  unfold Mu.inT at hi
  by_cases g : gdS s
  · have h1 := g.1
    have h2 := g.2
    exact ⟨s.toNat, by omega, by omega⟩
  · rw [if_neg g] at hi; cases hi
theorem Ext.comp {w1 : World} (h1 : w.heap.size ≤ w1.heap.size) (h2 : w1.heap.size ≤ w'.heap.size) {b : Nat} (h : Ext (Ext H w w1) w1 w' b) : Ext H w w' b := Ext.trans h1 h2 b h
/-- Behind the lock: the session's own database changes. -/
theorem MX.write {w1 : World} {n : Nat} {nm : ByteArray} {f : Tb → Tb × Int} (hf : ∀ t, (f t).1.nm = t.nm) (hn : n < 4) (h2 : M.lk n nm = 2) (X : MX w1 k M H) (h : MMt w1 k Z) (hS : MmS Z M) (hA : ∀ b, Z.A k b → H b) {x : Ending} (hp : MdP 113 w1 k (17 + n) (tabV 21 (mmC Z)) (Z.v (1 + n)) (Z.l (1 + n)) (onT (Z.db (1 + n)) nm f).1 (onT (Z.db (1 + n)) nm f).2 x w') : x = .returned (.int .i64 (onT (M.see n) nm f).2) ∧ MX w' k (M.setV n (onT (M.see n) nm f).1) (Ext H w1 w') ∧ Only H w1 w' := by
  obtain ⟨v', l', rfl, hM, ht, hD, hb, oo⟩ := h.mdP (j := 1 + n) (by omega) offM_pos hp
  obtain ⟨e1, e2⟩ := hS.write (v := v') hn h2 hf ht (by rw [ht]; exact hD)
  exact ⟨by rw [e2], X.turn hM e1 (fun b c => (hb b c).imp (hA b) id) oo hA⟩
theorem MwP.join {w0 w1 : World} {n : Nat} {nm : ByteArray} {f : Db → Db × Int} {z : Int} (o0 : Only (fun _ => False) w0 w) (hn : n < 4) (hz : M.TkZ (n : Int) nm 2 0) (o1 : Only H w w1) (hz2 : z = (f (M.see n)).2) (X : MX w' k ((M.setL n nm 2).setV n (f (M.see n)).1) (Ext (Ext H w w1) w1 w')) (o2 : Only (Ext H w w1) w1 w') (hH : ∀ b, H b → b < w0.heap.size) : MwP w0 k M H (n : Int) nm f (.returned (.int .i64 z)) w' := by
  have e : ((n : Nat) : Int).toNat = n := by omega
  have z0 := o0.size
  have z1 := o1.size
  have z2 := o2.size
  refine .inr ⟨z, rfl, hz, by rw [e]; exact hz2, ?_, ?_⟩
  · rw [e]
    refine X.mono (fun b hb => ?_) (Ext.in hH (by omega))
    rcases Ext.trans z1 z2 b hb with c | c
    · exact .inl c
    · exact .inr ⟨by omega, c.2⟩
  · refine ((o0.mono (fun _ _ e => e.elim)).trans o1 (fun _ _ h => h)).trans o2 (fun b hb c => ?_)
    rcases c with c | c
    · exact c
    · omega
set_option maxRecDepth 100000 in
set_option maxHeartbeats 4000000 in
theorem xminsert_any (X : MX w k M H) (ok : MuOk M) (s : Int) (nm : ByteArray) {rv : Value} {row : List Vl} (O : OwnV w rv row) (hO : ∀ b, rv.ownBlock = some b → ¬ H b) (hw : ∀ v ∈ row, v.wf) (h4 : row.length ≤ 200) : Calls Tryz.prog 275 #[.pointer (some ⟨k, 0, none⟩), .int .i64 s, .string nm, rv] w (MwP w k M H s nm (fun D => insD D nm row)) := by
  have CA := hide (xmtake2_any X ok s nm)
  have HX := hide (And.intro X (And.intro ok (And.intro O (And.intro hO (And.intro hw h4)))))
  have kl : k < w.heap.size := X.lt k X.kH
  clear X ok O hO hw h4
  go_enter Tryz.func275, Tryz.ntmps275
  go_wp2_with fail
  refine (unhide CA).mono ?_
  rintro e w2 (⟨z, rfl, z0, hz, rfl⟩ | ⟨rfl, hz, X2, o2⟩)
  · have b0 : (z != 0) = true := by simpa using z0
    have FF := hide (show MwP w k M H s nm (fun D => insD D nm row) (.returned (.int .i64 z)) w from .inl ⟨z, rfl, z0, hz, (unhide HX).1.self⟩)
    clear CA hz z0
    go_wp2_with fail
    go_ret
    exact unhide FF
  · clear CA
    obtain ⟨n, rfl, hn⟩ := TkZ_good hz
    have n4 : (n : Int) < 4 := by omega
    have en : ((n : Nat) : Int).toNat = n := by omega
    rw [en] at X2
    obtain ⟨Z, h, hS, hA⟩ := X2.ex
    have hc := h.mdc (j := 1 + n) (o := 17 + n) (by omega) offM_pos (hS.ok (1 + n) (by omega))
    have O2 := (unhide HX).2.2.1.keep o2 (fun b hb => (unhide HX).2.2.2.1 b hb)
    have C2 := hide (mdbInsert_any hc nm O2 (unhide HX).2.2.2.2.1 (unhide HX).2.2.2.2.2)
    have HK := hide (fun (x : Ending) (w' : World) (hp : MdP 113 w2 k (17 + n) (tabV 21 (mmC Z)) (Z.v (1 + n)) (Z.l (1 + n)) (insD (Z.db (1 + n)) nm row).1 (insD (Z.db (1 + n)) nm row).2 x w') => show MwP w k M H (n : Int) nm (fun D => insD D nm row) x w' from by
      obtain ⟨e1, e2, e3⟩ := MX.write (f := fun t => insR t row) (fun t => insR_nm t row) hn (setL2 (unhide HX).2.1 hn nm) X2 h hS hA hp
      rw [e1]
      exact MwP.join (f := fun D => insD D nm row) (Only.refl _ _) hn hz o2 rfl e2 e3 (unhide HX).1.lt)
    have kl2 := h.has.lt
    clear X2 o2 h hS hA hc O2 hz en
    go_wp2_with fail
    refine (unhide C2).mono ?_
    intro x w3 hp
    have FF := hide (unhide HK x w3 hp)
    obtain ⟨v', l', rfl, _⟩ := hp
    clear C2 HK
    go_wp2_with fail
    go_ret
    exact unhide FF
set_option maxRecDepth 100000 in
set_option maxHeartbeats 4000000 in
theorem xmupdate_any (X : MX w k M H) (ok : MuOk M) (s : Int) (nm : ByteArray) {rv : Value} {row : List Vl} (O : OwnV w rv row) (hO : ∀ b, rv.ownBlock = some b → ¬ H b) (hw : ∀ v ∈ row, v.wf) (h4 : row.length ≤ 200) : Calls Tryz.prog 281 #[.pointer (some ⟨k, 0, none⟩), .int .i64 s, .string nm, rv] w (MwP w k M H s nm (fun D => updD D nm row)) := by
  have CA := hide (xmtake2_any X ok s nm)
  have HX := hide (And.intro X (And.intro ok (And.intro O (And.intro hO (And.intro hw h4)))))
  have kl : k < w.heap.size := X.lt k X.kH
  clear X ok O hO hw h4
  go_enter Tryz.func281, Tryz.ntmps281
  go_wp2_with fail
  refine (unhide CA).mono ?_
  rintro e w2 (⟨z, rfl, z0, hz, rfl⟩ | ⟨rfl, hz, X2, o2⟩)
  · have b0 : (z != 0) = true := by simpa using z0
    have FF := hide (show MwP w k M H s nm (fun D => updD D nm row) (.returned (.int .i64 z)) w from .inl ⟨z, rfl, z0, hz, (unhide HX).1.self⟩)
    clear CA hz z0
    go_wp2_with fail
    go_ret
    exact unhide FF
  · clear CA
    obtain ⟨n, rfl, hn⟩ := TkZ_good hz
    have n4 : (n : Int) < 4 := by omega
    have en : ((n : Nat) : Int).toNat = n := by omega
    rw [en] at X2
    obtain ⟨Z, h, hS, hA⟩ := X2.ex
    have hc := h.mdc (j := 1 + n) (o := 17 + n) (by omega) offM_pos (hS.ok (1 + n) (by omega))
    have O2 := (unhide HX).2.2.1.keep o2 (fun b hb => (unhide HX).2.2.2.1 b hb)
    have C2 := hide (mdbUpdate_any hc nm O2 (unhide HX).2.2.2.2.1 (unhide HX).2.2.2.2.2)
    have HK := hide (fun (x : Ending) (w' : World) (hp : MdP 113 w2 k (17 + n) (tabV 21 (mmC Z)) (Z.v (1 + n)) (Z.l (1 + n)) (updD (Z.db (1 + n)) nm row).1 (updD (Z.db (1 + n)) nm row).2 x w') => show MwP w k M H (n : Int) nm (fun D => updD D nm row) x w' from by
      obtain ⟨e1, e2, e3⟩ := MX.write (f := fun t => updR t row) (fun t => updR_nm t row) hn (setL2 (unhide HX).2.1 hn nm) X2 h hS hA hp
      rw [e1]
      exact MwP.join (f := fun D => updD D nm row) (Only.refl _ _) hn hz o2 rfl e2 e3 (unhide HX).1.lt)
    have kl2 := h.has.lt
    clear X2 o2 h hS hA hc O2 hz en
    go_wp2_with fail
    refine (unhide C2).mono ?_
    intro x w3 hp
    have FF := hide (unhide HK x w3 hp)
    obtain ⟨v', l', rfl, _⟩ := hp
    clear C2 HK
    go_wp2_with fail
    go_ret
    exact unhide FF
set_option maxRecDepth 100000 in
set_option maxHeartbeats 4000000 in
theorem xmdelete_any (X : MX w k M H) (ok : MuOk M) (s : Int) (nm : ByteArray) (key : Vl) (hw : key.wf) : Calls Tryz.prog 280 #[.pointer (some ⟨k, 0, none⟩), .int .i64 s, .string nm, vlA key] w (MwP w k M H s nm (fun D => delD D nm key)) := by
  have o1 : Only (fun _ => False) w (w.alloc (.cells #[.bool key.str, .int .i64 key.i, .string key.s] 152)) := (Only.refl _ _).alloc _
  have Bx : Has (w.alloc (.cells #[.bool key.str, .int .i64 key.i, .string key.s] 152)) w.heap.size #[.bool key.str, .int .i64 key.i, .string key.s] 152 := Has.new _ _ _
  have CA := hide (xmtake2_any (X.quiet o1) ok s nm)
  have HX := hide (And.intro X (And.intro ok (And.intro o1 (And.intro (X.quiet o1) (And.intro Bx hw)))))
  clear X ok hw o1 Bx
  unfold vlA
  go_enter Tryz.func280, Tryz.ntmps280
  go_upto_region 1 with fail
  generalize w.alloc (.cells #[.bool key.str, .int .i64 key.i, .string key.s] 152) = w1 at *
  generalize hkb : w.heap.size = kb at *
  have HKB := hide hkb
  clear hkb
  go_wp2_with fail
  refine (unhide CA).mono ?_
  rintro e w2 (⟨z, rfl, z0, hz, rfl⟩ | ⟨rfl, hz, X2, o2⟩)
  · have b0 : (z != 0) = true := by simpa using z0
    have FF := hide (show MwP w k M H s nm (fun D => delD D nm key) (.returned (.int .i64 z)) w1 from .inl ⟨z, rfl, z0, hz, (unhide HX).2.2.2.1.mono (fun b hb => .inl hb) (Ext.in (unhide HX).1.lt (unhide HX).2.2.1.size), (unhide HX).2.2.1.mono (fun _ _ e => e.elim)⟩)
    clear CA hz z0
    go_wp2_with fail
    go_ret
    exact unhide FF
  · clear CA
    obtain ⟨n, rfl, hn⟩ := TkZ_good hz
    have n4 : (n : Int) < 4 := by omega
    have en : ((n : Nat) : Int).toNat = n := by omega
    rw [en] at X2
    have B2 := (unhide HX).2.2.2.2.1.keep o2 (fun hb => by have := (unhide HX).1.lt kb hb; have := unhide HKB; omega)
    have d2 : Only (fun _ => False) w2 w2.drew := (Only.refl _ w2).drew
    obtain ⟨Z, h, hS, hA⟩ := X2.ex
    have hc := (h.quiet d2).mdc (j := 1 + n) (o := 17 + n) (by omega) offM_pos (hS.ok (1 + n) (by omega))
    have C2 := mdbDelete_any hc nm key (unhide HX).2.2.2.2.2
    unfold vlA at C2
    have C2 := hide C2
    have HK := hide (fun (x : Ending) (w' : World) (hp : MdP 113 w2.drew k (17 + n) (tabV 21 (mmC Z)) (Z.v (1 + n)) (Z.l (1 + n)) (delD (Z.db (1 + n)) nm key).1 (delD (Z.db (1 + n)) nm key).2 x w') => show MwP w k M H (n : Int) nm (fun D => delD D nm key) x w' from by
      obtain ⟨e1, e2, e3⟩ := MX.write (f := fun t => delR t key) (fun t => delR_nm t key) hn (setL2 (unhide HX).2.1 hn nm) (X2.quiet d2) (h.quiet d2) hS hA hp
      rw [e1]
      refine MwP.join (f := fun D => delD D nm key) (unhide HX).2.2.1 hn hz (o2.trans (d2.mono (fun _ _ e => e.elim)) (fun _ _ e => e)) rfl (e2.mono (fun b hb => ?_) (Ext.in (Ext.in (unhide HX).2.2.2.1.lt (Nat.le_trans o2.size d2.size)) e3.size)) (e3.mono (fun b _ c => c.imp id (fun c => ⟨c.1, Nat.lt_of_lt_of_le c.2 d2.size⟩))) (unhide HX).1.lt
      exact hb.imp (fun c => c.imp id (fun c => ⟨c.1, Nat.lt_of_lt_of_le c.2 d2.size⟩)) id)
    have kl2 := h.has.lt
    have b0 := B2.cell 0
    have b1 := B2.cell 1
    have b2 := B2.cell 2
    have bl := B2.lt
    simp at b0 b1 b2
    clear X2 o2 h hS hA hc B2 hz en d2
    go_upto_region 4 with fail
    go_region_with (go_at_call 333; refine (unhide C2).mono ?_; rintro x w3 hp; have FF := hide (unhide HK x w3 hp); obtain ⟨v', l', rfl, _⟩ := hp)
    all_goals
      go_wp2_with fail
      go_ret
      exact unhide FF
end
end Go.Proofs.Qxb6500412aGreat
