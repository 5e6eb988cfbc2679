/-
  OWN WORK. TXN: a write set turned; has.
-/
import Derived.Test.Qxb6500412aGreatX4
import Derived.Test.Qxb6500412aGreatMM10
namespace Go.Proofs.Qxb6500412aGreat
open Go.RowKit Go.PlainAid
set_option linter.unusedSimpArgs false
set_option linter.unusedVariables false

def Xs.setW (X : Xs) (s : Nat) (v : Value) (l : List WCh) : Xs := { X with wv := fun i => if i = s then v else X.wv i, ws := fun i => if i = s then l else X.ws i }
section
variable {w w' : World} {g t : Nat} {X : Xs} {s : Nat} {v' : Value} {l' : List WCh}
theorem XH.setW (h : XH w g t X) (hs : s < 4) (v' : Value) (l' : List WCh) : XH (w.setCell ⟨g, 23 + s, none⟩ v') g t (X.setW s v' l') := by
  have := Has.setCell h (23 + s) v'
  rw [tabV_set] at this
  unfold XH
  refine cast (congrArg (fun c => Has (w.setCell ⟨g, 23 + s, none⟩ v') g c 134) (tabV_congr 27 (fun i hi => ?_))) this
  unfold xcell
  by_cases e : i = 23 + s
  · subst e
    rw [if_pos rfl, if_neg (by omega), if_neg (by omega), if_neg (by omega), show 23 + s - 23 = s by omega]
    show v' = if s = s then v' else X.wv s
    rw [if_pos rfl]
  · rw [if_neg e]
    by_cases e0 : i = 0
    · rw [if_pos e0, if_pos e0]
    · rw [if_neg e0, if_neg e0]
      by_cases e1 : i < 5
      · rw [if_pos e1, if_pos e1]; rfl
      · rw [if_neg e1, if_neg e1]
        by_cases e2 : i < 23
        · rw [if_pos e2, if_pos e2]; rfl
        · rw [if_neg e2, if_neg e2]
          show X.wv (i - 23) = if i - 23 = s then v' else X.wv (i - 23)
          rw [if_neg (by omega)]
/-- The blocks of a session's write set and the manager's own. -/
def Xs.U (X : Xs) (g s k : Nat) : Prop := k = g ∨ (X.wv s).ownBlock = some k
theorem XM.mg (h : XM w g t X) {r : Nat} (hr : r < 4) {k : Nat} (hk : (X.wv r).ownBlock = some k) : k ≠ g := fun e => by
  have hh : Has w g (tabV 27 (xcell t X)) 134 := h.has
  exact ownsRow_ne (h.ws r hr).own hh (by decide) k hk e
theorem XM.ig (h : XM w g t X) {r : Nat} (hr : r < 4) {k : Nat} (hk : WLi (X.ws r) k) : k ≠ g := fun e => by
  obtain ⟨c, hc, hk⟩ := hk
  have hh : Has w g (tabV 27 (xcell t X)) 134 := h.has
  exact ownsRow_ne ((h.ws r hr).row c hc) hh (by decide) k hk e
theorem XM.im (h : XM w g t X) {r s : Nat} (hr : r < 4) (hs : s < 4) {k : Nat} (hk : WLi (X.ws r) k) (hm : (X.wv s).ownBlock = some k) : False := by
  obtain ⟨c, hc, hk⟩ := hk
  obtain ⟨cc, hh⟩ := ownsRow_has (h.ws s hs).own hm
  exact ownsRow_ne ((h.ws r hr).row c hc) hh (by decide) k hk rfl
/-- A session's write set turned. -/
theorem XM.setW (M : XM w g t X) (hs : s < 4) (ho : Only (X.U g s) w w') (hX : XH w' g t (X.setW s v' l')) (hW : WL w' v' l') (hb : ∀ k, v'.ownBlock = some k → (X.wv s).ownBlock = some k ∨ w.heap.size ≤ k) : XM w' g t (X.setW s v' l') := by
  have hw : ∀ i, (X.setW s v' l').wv i = if i = s then v' else X.wv i := fun _ => rfl
  have hl : ∀ i, (X.setW s v' l').ws i = if i = s then l' else X.ws i := fun _ => rfl
  refine ⟨hX, fun r hr => ?_, fun a b ha hb' hab k h1 h2 => ?_⟩
  · by_cases e : r = s
    · rw [hw, hl, if_pos e, if_pos e]; exact hW
    · rw [hw, hl, if_neg e, if_neg e]
      refine (M.ws r hr).keep ho (fun k hk hB => ?_) (fun k hk hB => ?_)
      · rcases hB with e1 | e1
        · exact M.mg hr hk e1
        · exact M.sep r s hr hs e k hk e1
      · rcases hB with e1 | e1
        · exact M.ig hr hk e1
        · exact M.im hr hs hk e1
  · rw [hw] at h1 h2
    by_cases ea : a = s
    · rw [if_pos ea] at h1
      rw [if_neg (fun e => hab (ea.trans e.symm))] at h2
      rcases hb k h1 with e1 | e1
      · exact M.sep s b hs hb' (fun e => hab (ea.trans e)) k e1 h2
      · have := (M.ws b hb').lt k (.inl h2); omega
    · rw [if_neg ea] at h1
      by_cases eb : b = s
      · rw [if_pos eb] at h2
        rcases hb k h2 with e1 | e1
        · exact M.sep a s ha hs ea k h1 e1
        · have := (M.ws a ha).lt k (.inl h1); omega
      · rw [if_neg eb] at h2
        exact M.sep a b ha hb' hab k h1 h2
end
/-- A word stored in place. -/
theorem wset6 {w : World} {b n cap : Nat} {l : List WCh} (R : w.ownsRow 0 285 6 (.slice (some ⟨b, 0, none⟩) n cap) n (wcs l)) (j : Nat) (c : WCh) :
    ((((((w.setCell ⟨b, j * 6, none⟩ (.string c.d.tab)).setCell ⟨b, j * 6 + 1, none⟩ (.bool c.d.key.str)).setCell ⟨b, j * 6 + 2, none⟩ (.int .i64 c.d.key.i)).setCell ⟨b, j * 6 + 3, none⟩ (.string c.d.key.s)).setCell ⟨b, j * 6 + 4, none⟩ (.bool c.d.gone)).setCell ⟨b, j * 6 + 5, none⟩ c.u).ownsRow 0 285 6 (.slice (some ⟨b, 0, none⟩) n cap) n (wcs (l.set j c)) := by
  rw [wcs_set]
  exact gbrowset (gbrowset (gbrowset (gbrowset (gbrowset (gbrowset R _) _) _) _) _) _
theorem wonly6 (w : World) (b j : Nat) (c : WCh) : Only (fun k => k = b) w ((((((w.setCell ⟨b, j * 6, none⟩ (.string c.d.tab)).setCell ⟨b, j * 6 + 1, none⟩ (.bool c.d.key.str)).setCell ⟨b, j * 6 + 2, none⟩ (.int .i64 c.d.key.i)).setCell ⟨b, j * 6 + 3, none⟩ (.string c.d.key.s)).setCell ⟨b, j * 6 + 4, none⟩ (.bool c.d.gone)).setCell ⟨b, j * 6 + 5, none⟩ c.u) :=
  (((((only1 (p := b) _ _).trans (only1 (p := b) _ _) (fun _ _ h => h)).trans (only1 (p := b) _ _) (fun _ _ h => h)).trans (only1 (p := b) _ _) (fun _ _ h => h)).trans (only1 (p := b) _ _) (fun _ _ h => h)).trans (only1 (p := b) _ _) (fun _ _ h => h)
theorem wcell6 {w : World} {b n cap : Nat} {l : List WCh} (R : w.ownsRow 0 285 6 (.slice (some ⟨b, 0, none⟩) n cap) n (wcs l)) {j : Nat} {x : WCh} (hx : l[j]? = some x) : w.cell? ⟨b, j * 6, none⟩ = some (.string x.d.tab) ∧ w.cell? ⟨b, j * 6 + 1, none⟩ = some (.bool x.d.key.str) ∧ w.cell? ⟨b, j * 6 + 2, none⟩ = some (.int .i64 x.d.key.i) ∧ w.cell? ⟨b, j * 6 + 3, none⟩ = some (.string x.d.key.s) ∧ w.cell? ⟨b, j * 6 + 4, none⟩ = some (.bool x.d.gone) ∧ w.cell? ⟨b, j * 6 + 5, none⟩ = some x.u := by
  have hc := World.ownsRow.cells R (g := b) rfl
  obtain ⟨a1, a2, a3, a4, a5, a6⟩ := wcs_at l j hx
  have b1 := hc _ _ a1
  have b2 := hc _ _ a2
  have b3 := hc _ _ a3
  have b4 := hc _ _ a4
  have b5 := hc _ _ a5
  have b6 := hc _ _ a6
  rw [addr_add] at b1 b2 b3 b4 b5 b6
  exact ⟨b1, b2, b3, b4, b5, b6⟩
/-- What a session sees under the key: its own last word, else the store's. -/
def hasP (l : List WCh) (D : Db) (tab : ByteArray) (key : Vl) : Bool := match l.find? (fun c => decide (sideP tab key c.d ≤ 0)) with
  | none => blwP D tab key
  | some c => if sideP tab key c.d = 0 then !c.d.gone else blwP D tab key
theorem FnR.find {l : List WCh} {tab : ByteArray} {key : Vl} {p : Int} {hit : Bool} (h : FnR l tab key p hit) : ∃ n : Nat, p = n ∧ n ≤ l.length ∧ ((hit = false ∧ ∀ D, hasP l D tab key = blwP D tab key) ∨ ∃ c, hit = true ∧ l[n]? = some c ∧ sideP tab key c.d = 0 ∧ ∀ D, hasP l D tab key = !c.d.gone) := by
  obtain ⟨n, rfl, hn, hlt, hc⟩ := h
  refine ⟨n, rfl, hn, ?_⟩
  rcases hc with ⟨rfl, rfl⟩ | ⟨c, hc, hle, rfl⟩
  · refine .inl ⟨rfl, fun D => ?_⟩
    have : l.find? (fun c => decide (sideP tab key c.d ≤ 0)) = none := by
      rw [List.find?_eq_none]
      intro c hc
      obtain ⟨j, hj⟩ := List.getElem?_of_mem hc
      have := hlt j c hj (List.getElem?_eq_some_iff.mp hj).1
      simp; omega
    unfold hasP
    rw [this]
  · have hf : l.find? (fun c => decide (sideP tab key c.d ≤ 0)) = some c := by
      have hnl := (List.getElem?_eq_some_iff.mp hc).1
      have hsp : l = l.take n ++ c :: l.drop (n + 1) := by
        have := List.take_append_drop n l
        rw [List.drop_eq_getElem_cons hnl, (List.getElem?_eq_some_iff.mp hc).2] at this
        exact this.symm
      rw [hsp, List.find?_append]
      have h1 : (l.take n).find? (fun c => decide (sideP tab key c.d ≤ 0)) = none := by
        rw [List.find?_eq_none]
        intro x hx
        obtain ⟨j, hj⟩ := List.getElem?_of_mem hx
        rw [List.getElem?_take] at hj
        by_cases e : j < n
        · rw [if_pos e] at hj
          have := hlt j x hj e
          simp; omega
        · rw [if_neg e] at hj; cases hj
      rw [h1]
      simp [hle]
    by_cases e0 : sideP tab key c.d = 0
    · refine .inr ⟨c, decide_eq_true e0, hc, e0, fun D => ?_⟩
      unfold hasP
      rw [hf]
      simp only [if_pos e0]
    · refine .inl ⟨decide_eq_false e0, fun D => ?_⟩
      unfold hasP
      rw [hf]
      simp only [if_neg e0]
section
variable {q : Gnd} {w : World} {g x : Nat} {X : Xs} {op : Bool} {S : Vu} {T : List (Tb × Hd)}
set_option maxRecDepth 100000 in
set_option maxHeartbeats 4000000 in
theorem xhas_any (H : XR q w g x X op S) (L : Lay S T) {s : Nat} (hs : s < 4) (hl : (X.ws s).length ≤ 1000) (tab : ByteArray) (key : Vl) (hkw : key.wf) : Calls Tryz.prog 311 #[.pointer (some ⟨g, 0, none⟩), .int .i64 (s : Int), .string tab, vlA key] w fun e w' => e = .returned (.bool (hasP (X.ws s) (dbOf T) tab key)) ∧ XR q w' g x X op S ∧ Only q.S w w' := by
  have o0 : Only (fun _ => False) w (w.alloc (.cells #[.bool key.str, .int .i64 key.i, .string key.s] 152)) := (Only.refl _ w).alloc _
  have N0 := Has.new w #[.bool key.str, .int .i64 key.i, .string key.s] 152
  have H0 := H.quiet o0
  have C1 := xfind_any H0.xm hs hl tab key
  unfold vlA at C1 ⊢
  have C1 := hide C1
  have HX := hide H0
  have HO := hide o0
  have HN := hide N0
  have s4 : (s : Int) < 4 := by omega
  obtain ⟨R, hR⟩ : ∃ b : Bool, hasP (X.ws s) (dbOf T) tab key = b := ⟨_, rfl⟩
  rw [hR]
  have HR := hide hR
  clear H H0 o0 N0 hR
  go_enter Tryz.func311, Tryz.ntmps311
  go_upto_region 1 with fail
  generalize w.alloc (.cells #[.bool key.str, .int .i64 key.i, .string key.s] 152) = w0 at *
  generalize hkb : w.heap.size = kb at *
  have k0 : w0.cell? ⟨kb, 0, none⟩ = some (.bool key.str) := (unhide HN).cell 0
  have k1 : w0.cell? ⟨kb, 1, none⟩ = some (.int .i64 key.i) := (unhide HN).cell 1
  have k2 : w0.cell? ⟨kb, 2, none⟩ = some (.string key.s) := (unhide HN).cell 2
  go_wp2_with fail
  refine (unhide C1).mono ?_
  rintro e w1 ⟨p, hit, rfl, hf, o1⟩
  have H1 := (unhide HX).quiet o1
  have O1 := (unhide HO).trans o1 (fun _ _ h => h)
  have N1 := (unhide HN).keep o1 (fun h => h)
  obtain ⟨n, rfl, hn, hcase⟩ := hf.find
  clear C1 hf o1 k0 k1 k2
  rcases hcase with ⟨rfl, hb⟩ | ⟨c, rfl, hc, _, hb⟩
  · have C2 := xbelow_any H1 L tab key hkw
    rw [← hb, unhide HR] at C2
    unfold vlA at C2
    have C2 := hide C2
    have HO1 := hide O1
    have k0 : w1.cell? ⟨kb, 0, none⟩ = some (.bool key.str) := N1.cell 0
    have k1 : w1.cell? ⟨kb, 1, none⟩ = some (.int .i64 key.i) := N1.cell 1
    have k2 : w1.cell? ⟨kb, 2, none⟩ = some (.string key.s) := N1.cell 2
    clear hb H1 O1 N1
    go_wp2_with fail
    refine (unhide C2).mono ?_
    rintro e w2 ⟨rfl, h2, o2⟩
    have FF := hide (And.intro h2 (((unhide HO1).mono (T := q.S) (fun _ _ h => h.elim)).trans o2 (fun _ _ h => h)))
    clear C2 h2 o2
    go_wp2_with fail
    go_ret
    exact ⟨rfl, unhide FF⟩
  · have W := H1.xm.ws s hs
    obtain ⟨a, cap, hwv⟩ := W.shape
    have c0 := H1.xm.has.wset hs
    have gl := H1.xm.has.lt
    rw [hwv] at W c0
    obtain ⟨b, rfl, _, _, _, _, e4, _⟩ := W.at_ hc
    have hR2 : (!c.d.gone) = R := by rw [← unhide HR, hb]
    obtain ⟨m, hm⟩ : ∃ m, (X.ws s).length = m := ⟨_, rfl⟩
    have hnm : n < m := by rw [← hm]; exact (List.getElem?_eq_some_iff.mp hc).1
    have hnI : (n : Int) < (m : Int) := by omega
    rw [hm] at c0
    have FF := hide (And.intro H1 (O1.mono (T := q.S) (fun _ _ h => h.elim)))
    clear hb W hwv hc H1 O1 N1 hm hl
    go_wp2_with fail
    go_ret
    exact ⟨by first | rfl | rw [hR2], unhide FF⟩
end
end Go.Proofs.Qxb6500412aGreat
