/-
  OWN WORK. THE GRAPH LAW: SameSetBranch, SameDelBranch, SameSetHead, SameSave, SameCollect, Abort (written by tools/gen_gl7.py).
-/
import Derived.Test.Qxb6500417aGreatGL6
namespace Go.Proofs.Qxb6500417aGreat
open Go.RowKit Go.PlainAid
set_option linter.unusedSimpArgs false
set_option linter.unusedVariables false

theorem sbA_nx (A : GA) (nm : ByteArray) (q : Int) : (sbA A nm q).nx = A.nx := by unfold sbA; split <;> rfl
theorem dbA_nx (A : GA) (nm : ByteArray) : (dbA A nm).nx = A.nx := by unfold dbA; split <;> rfl
theorem shA_nx (A : GA) (nm : ByteArray) (q x : Int) : (shA A nm q x).nx = A.nx := by unfold shA; split <;> rfl
section
variable {w w' w1 w2 : World} {g t s d m : Nat} {D : Nat → Nat} {J : Nat → Sl} {rt : Nat} {F : Nat → Prop} {T : Gt} {S : GA} {r sr : Int} {H : Nat → Prop}
theorem GJ.mgT (h : GJ w g t s d m D J rt F T S r sr H) (ho : Only (fun y => y = g ∨ y = t ∨ y = s ∨ F y) w w') : MG w' m true (absG J T) r S sr true H := h.mg.keep ho (fun k hk e => MG.notG h.off k e hk)
set_option maxRecDepth 100000 in
theorem glsetBr_any (h : GJ w g t s d m D J rt F T S r sr H) (nm : ByteArray) (q : Int) :
    Calls Tryz.prog 48 #[.pointer (some ⟨g, 0, none⟩), .pointer (some ⟨m, 0, none⟩), .string nm, .int .i64 q] w fun e w' => e = .returned (.bool true) ∧ PlX w w' g t s d m D J rt F T S r sr H 4 false := by
  have C1 := hide (gsetBr_any h.gr nm q)
  have hA := h.gr.asm
  have HX : Hid (∀ w1 w2, TabP w w1 g t s d D D [] J rt F S ((fun A => sbA A nm q) (absG J T)) → MT w1 w2 m true ((fun A => sbA A nm q) (absG J T)) r S sr true H → PlX w w2 g t s d m D J rt F T S r sr H 4 false) := hide (fun w1 w2 hT hM => PlX.tab h hT hM (by first | exact sbA_nx _ _ _ | exact dbA_nx _ _ | exact shA_nx _ _ _ _) (by decide) (by decide))
  have HM := hide (fun (w1 : World) (ho : Only (fun y => y = g) w w1) => hsetBr_any (h.mgT (ho.mono (fun y _ e => .inl e))) hA nm q)
  obtain ⟨X, hX⟩ : ∃ X : Nat, sbE (absG J T) nm q = X := ⟨_, rfl⟩
  rw [hX] at C1 HM
  have e0 := eqI (X : Int)
  clear h hX hA
  go_enter Tryz.func48, Tryz.ntmps48
  go_wp2_with fail
  refine (unhide C1).mono ?_
  rintro e w1 ⟨rfl, hT⟩
  have C2 := hide (unhide HM w1 hT.only)
  have HT := hide hT
  clear C1 hT
  go_wp2_with fail
  refine (unhide C2).mono ?_
  rintro e w2 ⟨rfl, hM⟩
  have RR := hide (unhide HX w1 w2 (unhide HT) hM)
  clear C2 hM HX HM HT
  go_wp2_with fail
  go_ret
  exact ⟨rfl, unhide RR⟩
set_option maxRecDepth 100000 in
theorem gldelBr_any (h : GJ w g t s d m D J rt F T S r sr H) (nm : ByteArray) :
    Calls Tryz.prog 49 #[.pointer (some ⟨g, 0, none⟩), .pointer (some ⟨m, 0, none⟩), .string nm] w fun e w' => e = .returned (.bool true) ∧ PlX w w' g t s d m D J rt F T S r sr H 5 false := by
  have C1 := hide (gdelBr_any h.gr nm)
  have hA := h.gr.asm
  have HX : Hid (∀ w1 w2, TabP w w1 g t s d D D [] J rt F S ((fun A => dbA A nm) (absG J T)) → MT w1 w2 m true ((fun A => dbA A nm) (absG J T)) r S sr true H → PlX w w2 g t s d m D J rt F T S r sr H 5 false) := hide (fun w1 w2 hT hM => PlX.tab h hT hM (by first | exact sbA_nx _ _ _ | exact dbA_nx _ _ | exact shA_nx _ _ _ _) (by decide) (by decide))
  have HM := hide (fun (w1 : World) (ho : Only (fun y => y = g) w w1) => hdelBr_any (h.mgT (ho.mono (fun y _ e => .inl e))) hA nm)
  obtain ⟨X, hX⟩ : ∃ X : Nat, dbE (absG J T) nm = X := ⟨_, rfl⟩
  rw [hX] at C1 HM
  have e0 := eqI (X : Int)
  clear h hX hA
  go_enter Tryz.func49, Tryz.ntmps49
  go_wp2_with fail
  refine (unhide C1).mono ?_
  rintro e w1 ⟨rfl, hT⟩
  have C2 := hide (unhide HM w1 hT.only)
  have HT := hide hT
  clear C1 hT
  go_wp2_with fail
  refine (unhide C2).mono ?_
  rintro e w2 ⟨rfl, hM⟩
  have RR := hide (unhide HX w1 w2 (unhide HT) hM)
  clear C2 hM HX HM HT
  go_wp2_with fail
  go_ret
  exact ⟨rfl, unhide RR⟩
set_option maxRecDepth 100000 in
theorem glsetHd_low (h : GJ w g t s d m D J rt F T S r sr H) (nm : ByteArray) (q x : Int) :
    Calls Tryz.prog 50 #[.pointer (some ⟨g, 0, none⟩), .pointer (some ⟨m, 0, none⟩), .agg #[.string nm, .int .i64 q, .int .i64 x]] w fun e w' => e = .returned (.bool true) ∧ PlX w w' g t s d m D J rt F T S r sr H 6 false := by
  have oA := (Only.refl (fun _ => False) w).alloc (.cells #[.string nm, .int .i64 q, .int .i64 x] 58)
  have hB := Has.new w #[.string nm, .int .i64 q, .int .i64 x] 58
  obtain ⟨W, hW⟩ : ∃ W, w.alloc (.cells #[.string nm, .int .i64 q, .int .i64 x] 58) = W := ⟨_, rfl⟩
  rw [hW] at oA hB
  have C1 := hide (gsetHd_any (h.quiet oA).gr nm q x)
  have hA := h.gr.asm
  have HX : Hid (∀ w1 w2, TabP W w1 g t s d D D [] J rt F S ((fun A => shA A nm q x) (absG J T)) → MT w1 w2 m true ((fun A => shA A nm q x) (absG J T)) r S sr true H → PlX w w2 g t s d m D J rt F T S r sr H 6 false) := hide (fun w1 w2 hT hM => PlX.pre oA (PlX.tab (h.quiet oA) hT hM (by first | exact sbA_nx _ _ _ | exact dbA_nx _ _ | exact shA_nx _ _ _ _) (by decide) (by decide)))
  have HM := hide (fun (w1 : World) (ho : Only (fun y => y = g) W w1) => hsetHd_any ((h.quiet oA).mgT (ho.mono (fun y _ e => .inl e))) hA nm q x)
  obtain ⟨X, hX⟩ : ∃ X : Nat, shE (absG J T) nm q x = X := ⟨_, rfl⟩
  rw [hX] at C1 HM
  have e0 := eqI (X : Int)
  have Hbg := hide (show w.heap.size ≠ g from fun e => by have := h.gr.gh.lt; omega)
  clear h hX hA
  have x0 := hB.cell 0
  have x1 := hB.cell 1
  have x2 := hB.cell 2
  simp only [List.getElem?_toArray, List.getElem?_cons_zero, List.getElem?_cons_succ] at x0 x1 x2
  have xl := hB.lt
  have HB := hide hB
  have OA := hide oA
  have HW := hide hW
  clear hW hB oA
  go_enter Tryz.func50, Tryz.ntmps50
  go_upto_region 1 with fail
  rw [unhide HW]
  generalize w.heap.size = bk at *
  go_wp2_with fail
  refine (unhide C1).mono ?_
  rintro e w1 ⟨rfl, hT⟩
  have hB1 := (unhide HB).keep hT.only (fun e => by have e' : bk = g := e; exact absurd e' (unhide Hbg))
  have y0 := hB1.cell 0
  have y1 := hB1.cell 1
  have y2 := hB1.cell 2
  simp only [List.getElem?_toArray, List.getElem?_cons_zero, List.getElem?_cons_succ] at y0 y1 y2
  have yl := hB1.lt
  clear hB1 x0 x1 x2
  have C2 := hide (unhide HM w1 hT.only)
  have HT := hide hT
  clear C1 hT
  go_wp2_with fail
  refine (unhide C2).mono ?_
  rintro e w2 ⟨rfl, hM⟩
  have RR := hide (unhide HX w1 w2 (unhide HT) hM)
  clear C2 hM HX HM HT
  go_wp2_with fail
  go_ret
  exact ⟨rfl, unhide RR⟩
/-- Abort, both sides. -/
theorem PlX.abort (h : GJ w g t s d m D J rt F T S r sr H) {T' : Gt} (hG : GR w1 g t s d D D [] (abortJ J) rt F T' S) (ha : absG (abortJ J) T' = S) (hW : Went w w1 g t s d D D [] J (abortJ J) rt rt F [] F) (hM : MT w1 w2 m true S sr S sr true H) : PlX w w2 g t s d m D J rt F T S r sr H 9 false := by
  obtain ⟨a1, a2, a3, a4, a5, a6⟩ := PlP.went h hW (by simpa [replayB] using hG) hM
  have ht := abort_twice J
  have hn : T'.nx = S.nx := by rw [← ha]; rfl
  have hlo := h.ls
  have hfr := frJ_le (abortJ J)
  have hrb := h.rb
  refine ⟨abortJ J, rt, [], F, T', S, S, sr, S, sr, _, a1, a2, a3, a4, fun kk hk => absurd hk (by simp), by simp, a5, fun _ => ⟨rfl, rfl, by rw [ht]⟩, a6, fun N hN _ => ?_, ?_, fun _ => ⟨ha.symm, rfl, h.ls, by rw [ht]; exact h.ls, fun _ => frJ_abort J, fun e => absurd rfl e, fun e => by omega, fun e => by omega⟩, fun e => Bool.noConfusion e, fun e => by cases e⟩
  · have := hN.step
    rw [hn]
    exact ⟨this.s1, this.s2, this.s1, this.s2, this.sn, this.sn⟩
  · have := h.srb
    exact ⟨by omega, by omega⟩
/-- Save, both sides. -/
theorem PlX.save (h : GJ w g t s d m D J rt F T S r sr H) {en : Nat} (hS : SavP w w1 g t s d D D [] J rt F T S en) (hM : MT w1 w2 m true (absG J T) (r - 1) (absG J T) (r - 1) false H) : (en = 0 ∧ PlX w w2 g t s d m D J rt F T S r sr H 8 false) ∨ (en = 5 ∧ PlX w w2 g t s d m D J rt F T S r sr H 8 true) := by
  obtain ⟨J', rt', R, F', S', hW, hG, ha, hc⟩ := hS.ex
  rw [List.nil_append] at hG
  obtain ⟨a1, a2, a3, a4, a5, a6⟩ := PlP.went h hW hG hM
  have hrb := h.rb
  have hlo := h.lo
  have hfa := frJ_abort J'
  rcases hc with ⟨e0, hS', hR, hf⟩ | ⟨e5, hf, rfl, rfl, rfl, rfl⟩
  · refine .inl ⟨e0, J', rt', R, F', T, S', absG J T, r - 1, absG J T, r - 1, _, a1, a2, a3, a4, hW.cuts, hW.keys, a5, fun e => by rw [e] at hR; simp at hR, a6, fun N hN hq => ?_, ⟨by omega, by omega⟩, fun _ => ⟨ha.symm, hS'.symm, by omega, by omega, fun e => absurd e (by decide), fun _ _ => by omega, fun _ => hR, fun e => absurd e (by decide)⟩, fun e => Bool.noConfusion e, fun e => by cases e⟩
    have hh := hN
    have := hh.r1; have := hh.r2; have := hh.n
    have hsx : S'.nx = T.nx := by rw [hS']; rfl
    exact ⟨by omega, by omega, by omega, by omega, by omega, by rw [hsx]; omega⟩
  · refine .inr ⟨e5, J', rt', [], F', T, S', absG J' T, r - 1, absG J' T, r - 1, _, a1, a2, a3, a4, fun kk hk => absurd hk (by simp), by simp, a5, fun _ => ⟨rfl, rfl, rfl⟩, a6, fun N hN hq => ?_, ⟨by omega, by omega⟩, fun e => Bool.noConfusion e, fun _ => ⟨rfl, rfl, rfl, fun e => absurd e (by decide), fun _ => by omega, fun _ => by omega, fun e => absurd rfl e, by decide⟩, fun e => by cases e⟩
    have hh := hN
    have := hh.r1; have := hh.r2; have := hh.n; have := hh.sn
    exact ⟨by omega, by omega, by omega, by omega, by omega, by omega⟩
/-- Collect, both sides. -/
theorem PlX.coll (h : GJ w g t s d m D J rt F T S r sr H) {n en : Nat} (hS : ColP w w1 g t s d D D [] J rt F T S n en) (hM : MT w1 w2 m true (collA (absG J T)) (48 - (stayA (collA (absG J T)).nodes (absG J T).aux : Nat)) (collA (absG J T)) (48 - (stayA (collA (absG J T)).nodes (absG J T).aux : Nat)) false H) : (en = 0 ∧ n = stayA (collA (absG J T)).nodes (absG J T).aux ∧ PlX w w2 g t s d m D J rt F T S r sr H 12 false) ∨ (en = 5 ∧ n = 0 ∧ PlX w w2 g t s d m D J rt F T S r sr H 12 true) := by
  obtain ⟨J', rt', R, F', T', S', hW, hG, hc⟩ := hS.ex
  rw [List.nil_append] at hG
  obtain ⟨a1, a2, a3, a4, a5, a6⟩ := PlP.went h hW hG hM
  have hrb := h.rb
  have hst : stayA (collA (absG J T)).nodes (absG J T).aux ≤ 1000000 := by
    have hC := h.gr.asm.coll
    have := weightA_le hC.sn
    have := hC.n
    have e : stayA (collA (absG J T)).nodes (absG J T).aux = weightA ((collA (absG J T)).nodes.map Nd.files ++ [(collA (absG J T)).aux]) + (collA (absG J T)).nodes.length + 1 := rfl
    omega
  rcases hc with ⟨e0, hS', ha, ht, hR, hn, hab⟩ | ⟨e5, hn0, hf, rfl, rfl, rfl, rfl, rfl⟩
  · have hct := ht.count hG.gi hG.ts.blbI
    rw [ha] at hct
    have hax : (collA (absG J T)).aux = (absG J T).aux := rfl
    rw [hax] at hct
    have hx : (48 : Int) - (stayA (collA (absG J T)).nodes (absG J T).aux : Nat) = (frJ J' : Int) := by omega
    have hnx : T'.nx = T.nx := by
      have : (absG J' T').nx = (collA (absG J T)).nx := by rw [ha]
      exact this
    have hsx : S'.nx = T.nx := by rw [hS']; rfl
    rw [hx] at a2
    refine .inl ⟨e0, by omega, J', rt', R, F', T', S', collA (absG J T), (frJ J' : Int), collA (absG J T), (frJ J' : Int), _, a1, a2, a3, a4, hW.cuts, hW.keys, a5, fun e => by rw [e] at hR; simp at hR, a6, fun N hN hq => ?_, ⟨by omega, by omega⟩, fun _ => ⟨ha.symm, hS'.symm, Int.le_refl _, by rw [hab]; exact Int.le_refl _, fun e => absurd e (by decide), fun _ e => absurd rfl e, fun _ => hR, fun _ => ⟨rfl, by rw [hab]⟩⟩, fun e => Bool.noConfusion e, fun e => by cases e⟩
    have := hN.n
    rw [hnx, hsx]
    exact ⟨by omega, by omega, by omega, by omega, by omega, by omega⟩
  · refine .inr ⟨e5, hn0, J', rt', [], F', T', S', collA (absG J' T'), _, collA (absG J' T'), _, _, a1, a2, a3, a4, fun kk hk => absurd hk (by simp), by simp, a5, fun _ => ⟨rfl, rfl, rfl⟩, a6, fun N hN hq => ?_, ⟨by omega, by omega⟩, fun e => Bool.noConfusion e, fun _ => ⟨rfl, rfl, rfl, fun _ => by omega, fun e => absurd rfl e, fun _ => by omega, fun _ e => absurd rfl e, by decide⟩, fun e => by cases e⟩
    rcases hq with e | e
    · cases e
    · exact absurd rfl e.2
set_option maxRecDepth 100000 in
theorem glsave_any (h : GJ w g t s d m D J rt F T S r sr H) :
    Calls Tryz.prog 52 #[.pointer (some ⟨g, 0, none⟩), .pointer (some ⟨m, 0, none⟩)] w fun e w' => ∃ full : Bool, e = .returned (.tuple #[.bool true, .bool full]) ∧ PlX w w' g t s d m D J rt F T S r sr H 8 full := by
  have C1 := hide (gsave_any h.gr (by simp))
  have rb := h.rb
  have HM := hide (fun (w1 : World) (ho : Only (fun y => y = g ∨ y = t ∨ y = s ∨ F y) w w1) => hsave_any (h.mgT ho) h.gr.asm (by omega) (by omega))
  have HX := hide (fun w1 w2 (en : Nat) hS hM => PlX.save h (w1 := w1) (w2 := w2) (en := en) hS hM)
  clear h rb
  go_enter Tryz.func52, Tryz.ntmps52
  go_wp2_with fail
  refine (unhide C1).mono ?_
  rintro e w1 ⟨en, rfl, hS⟩
  have hO : Only (fun y => y = g ∨ y = t ∨ y = s ∨ F y) w w1 := by
    obtain ⟨_, _, _, _, _, hW, _⟩ := hS.ex
    exact hW.only
  have C2 := hide (unhide HM w1 hO)
  have HS := hide hS
  clear C1 hS hO HM
  go_wp2_with fail
  refine (unhide C2).mono ?_
  rintro e w2 ⟨rfl, hM⟩
  have RR := hide (unhide HX w1 w2 en (unhide HS) hM)
  clear C2 hM HX HS
  rcases unhide RR with ⟨rfl, hx⟩ | ⟨rfl, hx⟩
  · have HX := hide hx
    clear hx RR
    go_wp2_with fail
    go_ret2
    exact ⟨false, rfl, unhide HX⟩
  · have HX := hide hx
    clear hx RR
    go_wp2_with fail
    go_ret2
    exact ⟨true, rfl, unhide HX⟩
set_option maxRecDepth 100000 in
theorem glcoll_any (h : GJ w g t s d m D J rt F T S r sr H) :
    Calls Tryz.prog 57 #[.pointer (some ⟨g, 0, none⟩), .pointer (some ⟨m, 0, none⟩)] w fun e w' => ∃ full : Bool, e = .returned (.tuple #[.bool true, .bool full]) ∧ PlX w w' g t s d m D J rt F T S r sr H 12 full := by
  have C1 := hide (gcoll_any h.gr (by simp))
  have HM := hide (fun (w1 : World) (ho : Only (fun y => y = g ∨ y = t ∨ y = s ∨ F y) w w1) => hcoll_any (h.mgT ho) h.gr.asm)
  have HX := hide (fun w1 w2 (n en : Nat) hS hM => PlX.coll h (w1 := w1) (w2 := w2) (n := n) (en := en) hS hM)
  obtain ⟨X, hX⟩ : ∃ X, stayA (collA (absG J T)).nodes (absG J T).aux = X := ⟨_, rfl⟩
  rw [hX] at HM HX
  have e0 := eqI (X : Int)
  clear h hX
  go_enter Tryz.func57, Tryz.ntmps57
  go_wp2_with fail
  refine (unhide C1).mono ?_
  rintro e w1 ⟨n, en, rfl, hS⟩
  have hO : Only (fun y => y = g ∨ y = t ∨ y = s ∨ F y) w w1 := by
    obtain ⟨_, _, _, _, _, _, hW, _⟩ := hS.ex
    exact hW.only
  have C2 := hide (unhide HM w1 hO)
  have HS := hide hS
  clear C1 hS hO HM
  go_wp2_with fail
  refine (unhide C2).mono ?_
  rintro e w2 ⟨rfl, hM⟩
  have RR := hide (unhide HX w1 w2 n en (unhide HS) hM)
  clear C2 hM HX HS
  rcases unhide RR with ⟨rfl, rfl, hx⟩ | ⟨rfl, rfl, hx⟩
  · have HX := hide hx
    clear hx RR
    go_wp2_with fail
    go_ret2
    exact ⟨false, rfl, unhide HX⟩
  · have HX := hide hx
    clear hx RR
    go_wp2_with fail
    go_ret2
    exact ⟨true, rfl, unhide HX⟩
end
end Go.Proofs.Qxb6500417aGreat
