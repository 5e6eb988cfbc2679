/-
  OWN WORK. THE LAW OF DIFF: Tweak, S is appended to a list of a hunk (laid by tools/gen_dl22.py).
-/
import Derived.Test.Qxb6500416aDL21
import Derived.Deep.AppendLies
import Derived.Deep.RegionLaw
namespace Go.Proofs.Qxb6500416a
open Go.RowKit Go.PlainAid
set_option linter.unusedSimpArgs false
set_option linter.unusedVariables false

set_option maxRecDepth 100000 in
set_option maxHeartbeats 8000000 in
theorem tweak_2 {B : Nat} {w : World} {l e g cap : Nat} {mp r0 r1 k0 k1 k2 k3 : Value} {tx : ByteArray} {hs : List HV} {p : List Hk} {A0 A1 : List Fl} {L : List Str} {F R M : Nat → Prop} (h : LS B w l e mp (.slice (some ⟨g, 0, none⟩) p.length cap) r0 r1 k0 k1 k2 k3 tx hs p A0 A1 L F R M) (a : Nat) (ha : a < p.length) (b : Int) (s : ByteArray) (hd : p[a].ins.length ≤ 2048) (hs9 : s.size ≤ 9223372036854775807) :
    Calls Try.prog 15 #[.pointer (some ⟨l, 0, none⟩), .int .i64 a, .int .i64 b, .int .i64 2, .string s] w fun x w' => x = .returned (.tuple #[]) ∧ Stp B l w w' := by
  have has : a < hs.length := by have := h.pat.len; omega
  obtain ⟨i0, hi0, hz0, hz1, hz2⟩ := info_parts Try.infoStr
  obtain ⟨x, hx⟩ : ∃ x, x = wrap64 (p[a].at_ + b) := ⟨_, rfl⟩
  have hxr : -9223372036854775808 ≤ x ∧ x ≤ 9223372036854775807 := by
    rw [hx]
    exact wrap64_in _
  have b1 : decide ((a : Int) < 0) = false := decide_eq_false (by omega)
  have b2 : decide ((p.length : Int) ≤ (a : Int)) = false := decide_eq_false (by omega)
  have b3 : (a : Int) < (p.length : Int) := by omega
  obtain ⟨g', cap', _, ee, hgl, c0, c1, c3, hok⟩ := h.pat.at a ha
  obtain ⟨rfl, rfl⟩ : g = g' ∧ cap = cap' := by simpa using ee
  obtain ⟨cc, hgh⟩ := own_ty h.pat.1 g rfl
  have f0 := hgh.free (a * 3)
  have c2 := Has.cell h.lw 2
  have ll := Has.lt h.lw
  have hne : g ≠ l := Has.ne hgh h.lw (by decide)
  have e1 : decide ((2048 : Int) < (p[a].ins.length : Int)) = false := decide_eq_false (by omega)
  have hk := h.pb.all p[a] (List.getElem_mem ha)
  have h1 := h.at_ a ha has x hxr.1 hxr.2
  have o1 := donly1 (w := w) (p := g) (a * 3) (.int .i64 x)
  have hb : B ≤ g := h.bR g (h.pat.2.2 g rfl)
  have hvR : ∀ y, hs[a].iv.ownBlock = some y → B ≤ y := fun y hy => h.bR y (hok.inn y (.inr hy))
  have own0 : OwnL (w.setCell ⟨g, a * 3, none⟩ (.int .i64 x)) hs[a].iv p[a].ins := hok.ins.keep o1 (fun y hy e => by
    obtain ⟨c', hc'⟩ := own_ty hok.ins.row y hy
    subst e
    exact Has.ne hgh hc' (by decide) rfl)
  have HP := hide (fun (v : Value) (D : List Str) (w3 : World) => h1.pushIns (w' := w3) a (by simpa using ha) (by simpa using has) v D)
  have q1' : (w.setCell ⟨g, a * 3, none⟩ (.int .i64 x)).cell? ⟨g, a * 3 + 2, none⟩ = some hs[a].iv := by
    obtain ⟨g9, cap9, _, e9, _, _, q9, q10, _⟩ := h1.pat.at a (by simpa using ha)
    have eg : g = g9 := by simp at e9; exact e9.1
    subst eg
    simp only [List.getElem_set_self] at q9 q10
    exact q10
  simp only [List.getElem_set_self] at HP
  have hst : ∀ y ∈ p[a].ins, y.length ≤ 9223372036854775807 := hk.si
  have Hst := hide hst
  obtain ⟨da, dc, edv⟩ := own_len own0
  rw [edv] at c3 q1' own0 HP hvR
  clear edv
  have H := hide h
  have H1 := hide h1
  have O1 := hide o1
  clear h h1 ee hgh hxr hok hk hst o1
  generalize p[a].ins = D at *
  go_enter Try.func15, Try.ntmps15
  go_upto_region 10 with fail
  rw [← hx]
  generalize w.setCell ⟨g, a * 3, none⟩ (.int .i64 x) = W1 at *
  have o1z := (unhide O1).size
  have hgW : g < W1.heap.size := by omega
  have own1 : W1.ownsRow 0 9 1 (.slice da D.length dc) D.length (lineV D) := own0.row
  have q2 := Has.cell (unhide H1).lw 2
  have ql := Has.lt (unhide H1).lw
  obtain ⟨cg, hcg⟩ := own_ty (unhide H1).pat.1 g rfl
  have oD : Only (fun _ => False) W1 (W1.alloc (.cells #[.string s] 9)).drew := ((Only.refl (fun _ => False) W1).alloc _).drew
  have hEg : Has (W1.alloc (.cells #[.string s] 9)).drew g _ 62 := hcg.keep oD (fun h => h)
  have hEl : LW (W1.alloc (.cells #[.string s] 9)).drew l _ _ _ _ _ _ _ _ _ _ := Has.keep (unhide H1).lw oD (fun h => h)
  have x1 : (W1.alloc (.cells #[.string s] 9)).drew.cell? ⟨g, a * 3 + 2, none⟩ = some (.slice da D.length dc) := (World.cell?_of_block (oD.block g hgW (fun h => h))).trans q1'
  have x1f := hEg.free (a * 3 + 2)
  have x2 := Has.cell hEl 2
  have hne1 : (Value.slice da D.length dc).ownBlock ≠ some g := fun h => ownsRow_ne own1 hcg (by decide) g h rfl
  have hne2 : (Value.slice da D.length dc).ownBlock ≠ some l := fun h => ownsRow_ne own1 (unhide H1).lw (by decide) l h rfl
  have l5 : D.length + 1 ≤ maxLen := by unfold maxLen; omega
  have Hes := hide (sb_ls s)
  have qf := hcg.free (a * 3 + 2)
  clear own0 hEg hEl hcg o1z e1 c0 c1 c2 c3 f0 oD
  go_region_law
    ((refine step_append_lies _ (by rfl) _ _ _ (by rfl) 0 9 i0 _ 1 16 Try.underlying49 hi0 hz0 hz1 hz2 rfl (by omega) (.slice da D.length dc) D.length (lineV D) (by rfl) ((own1.alloc _).drew) ⟨W1.heap.size, 0, none⟩ 1 1 [.string s] (by rfl) (by rfl) (World.news_of_block (cs := #[.string s]) (t := 9) (fr := (0, 0)) (heap_alloc_new W1 _)) (by simp [Value.oneCell']) (by omega) l5 (by omega) (by simp) (W1.heap.size + 1) (by simp) ?_; intro gg cap3 w3 hown1 hgrow hat hlt3; have y3 := (hgrow.cell_far ⟨g, a * 3 + 2, none⟩ (by simp; omega) (Ne.symm hne1)).trans x1; have yz := (hgrow.frozen_far ⟨g, a * 3 + 2, none⟩ (by simp; omega) (Ne.symm hne1)).trans x1f; have y2 := (hgrow.cell_far ⟨l, 2, none⟩ (by simp; omega) (Ne.symm hne2)).trans x2))
  all_goals
    have oG : Only (fun y => (Value.slice da D.length dc).ownBlock = some y) W1 w3 := ((Only.refl (fun y => (Value.slice da D.length dc).ownBlock = some y) W1).alloc _).drew.grown hgrow (fun y hy _ => hy)
    have hown2 : OwnL w3 (.slice (some ⟨gg, 0, none⟩) (D.length + 1) cap3) (D ++ [ls s]) := OwnL.of (by
      rw [← lineV_snoc, List.length_append, unhide Hes]
      exact hown1)
    have hN := unhide HP (.slice (some ⟨gg, 0, none⟩) (D.length + 1) cap3) (D ++ [ls s]) w3 oG hown2 (fun k hk => by
      have hkk : gg = k := by simpa [Value.ownBlock] using hk
      subst hkk
      rcases hat with h | h
      · exact .inl h
      · exact .inr ⟨by omega, by have := ownsRow_lt hown1 gg rfl; omega⟩) (by simp; omega) (fun y hy => by
      rcases List.mem_append.1 hy with h | h
      · exact unhide Hst y h
      · have : y = ls s := by simpa using h
        rw [this, ls_len]
        exact hs9)
    have RR : Hid (Stp B l w (w3.setCell ⟨g, a * 3 + 2, none⟩ (.slice (some ⟨gg, 0, none⟩) (D.length + 1) cap3))) := hide ⟨hN, (((unhide O1).mono (T := fun y => B ≤ y) (fun y _ e => by rw [e]; exact hb)).trans oG (fun y _ hy => hvR y hy)).trans (donly1 (p := g) (a * 3 + 2) _) (fun y _ e => by rw [e]; exact hb)⟩
    clear hN oG hown1 hown2 hgrow hat
    go_wp2_with fail
    go_end0
    exact ⟨rfl, unhide RR⟩

set_option maxRecDepth 100000 in
set_option maxHeartbeats 8000000 in
theorem tweak_3 {B : Nat} {w : World} {l e g cap : Nat} {mp r0 r1 k0 k1 k2 k3 : Value} {tx : ByteArray} {hs : List HV} {p : List Hk} {A0 A1 : List Fl} {L : List Str} {F R M : Nat → Prop} (h : LS B w l e mp (.slice (some ⟨g, 0, none⟩) p.length cap) r0 r1 k0 k1 k2 k3 tx hs p A0 A1 L F R M) (a : Nat) (ha : a < p.length) (b : Int) (s : ByteArray) (hd : p[a].del.length ≤ 2048) (hs9 : s.size ≤ 9223372036854775807) :
    Calls Try.prog 15 #[.pointer (some ⟨l, 0, none⟩), .int .i64 a, .int .i64 b, .int .i64 3, .string s] w fun x w' => x = .returned (.tuple #[]) ∧ Stp B l w w' := by
  have has : a < hs.length := by have := h.pat.len; omega
  obtain ⟨i0, hi0, hz0, hz1, hz2⟩ := info_parts Try.infoStr
  obtain ⟨x, hx⟩ : ∃ x, x = wrap64 (p[a].at_ + b) := ⟨_, rfl⟩
  have hxr : -9223372036854775808 ≤ x ∧ x ≤ 9223372036854775807 := by
    rw [hx]
    exact wrap64_in _
  have b1 : decide ((a : Int) < 0) = false := decide_eq_false (by omega)
  have b2 : decide ((p.length : Int) ≤ (a : Int)) = false := decide_eq_false (by omega)
  have b3 : (a : Int) < (p.length : Int) := by omega
  obtain ⟨g', cap', _, ee, hgl, c0, c1, c3, hok⟩ := h.pat.at a ha
  obtain ⟨rfl, rfl⟩ : g = g' ∧ cap = cap' := by simpa using ee
  obtain ⟨cc, hgh⟩ := own_ty h.pat.1 g rfl
  have f0 := hgh.free (a * 3)
  have c2 := Has.cell h.lw 2
  have ll := Has.lt h.lw
  have hne : g ≠ l := Has.ne hgh h.lw (by decide)
  have e1 : decide ((2048 : Int) < (p[a].del.length : Int)) = false := decide_eq_false (by omega)
  have hk := h.pb.all p[a] (List.getElem_mem ha)
  have h1 := h.at_ a ha has x hxr.1 hxr.2
  have o1 := donly1 (w := w) (p := g) (a * 3) (.int .i64 x)
  have hb : B ≤ g := h.bR g (h.pat.2.2 g rfl)
  have hvR : ∀ y, hs[a].dv.ownBlock = some y → B ≤ y := fun y hy => h.bR y (hok.inn y (.inl hy))
  have own0 : OwnL (w.setCell ⟨g, a * 3, none⟩ (.int .i64 x)) hs[a].dv p[a].del := hok.del.keep o1 (fun y hy e => by
    obtain ⟨c', hc'⟩ := own_ty hok.del.row y hy
    subst e
    exact Has.ne hgh hc' (by decide) rfl)
  have HP := hide (fun (v : Value) (D : List Str) (w3 : World) => h1.pushDel (w' := w3) a (by simpa using ha) (by simpa using has) v D)
  have q1' : (w.setCell ⟨g, a * 3, none⟩ (.int .i64 x)).cell? ⟨g, a * 3 + 1, none⟩ = some hs[a].dv := by
    obtain ⟨g9, cap9, _, e9, _, _, q9, q10, _⟩ := h1.pat.at a (by simpa using ha)
    have eg : g = g9 := by simp at e9; exact e9.1
    subst eg
    simp only [List.getElem_set_self] at q9 q10
    exact q9
  simp only [List.getElem_set_self] at HP
  have hst : ∀ y ∈ p[a].del, y.length ≤ 9223372036854775807 := hk.sd
  have Hst := hide hst
  obtain ⟨da, dc, edv⟩ := own_len own0
  rw [edv] at c1 q1' own0 HP hvR
  clear edv
  have H := hide h
  have H1 := hide h1
  have O1 := hide o1
  clear h h1 ee hgh hxr hok hk hst o1
  generalize p[a].del = D at *
  go_enter Try.func15, Try.ntmps15
  go_upto_region 12 with fail
  rw [← hx]
  generalize w.setCell ⟨g, a * 3, none⟩ (.int .i64 x) = W1 at *
  have o1z := (unhide O1).size
  have hgW : g < W1.heap.size := by omega
  have own1 : W1.ownsRow 0 9 1 (.slice da D.length dc) D.length (lineV D) := own0.row
  have q2 := Has.cell (unhide H1).lw 2
  have ql := Has.lt (unhide H1).lw
  obtain ⟨cg, hcg⟩ := own_ty (unhide H1).pat.1 g rfl
  have oD : Only (fun _ => False) W1 (W1.alloc (.cells #[.string s] 9)).drew := ((Only.refl (fun _ => False) W1).alloc _).drew
  have hEg : Has (W1.alloc (.cells #[.string s] 9)).drew g _ 62 := hcg.keep oD (fun h => h)
  have hEl : LW (W1.alloc (.cells #[.string s] 9)).drew l _ _ _ _ _ _ _ _ _ _ := Has.keep (unhide H1).lw oD (fun h => h)
  have x1 : (W1.alloc (.cells #[.string s] 9)).drew.cell? ⟨g, a * 3 + 1, none⟩ = some (.slice da D.length dc) := (World.cell?_of_block (oD.block g hgW (fun h => h))).trans q1'
  have x1f := hEg.free (a * 3 + 1)
  have x2 := Has.cell hEl 2
  have hne1 : (Value.slice da D.length dc).ownBlock ≠ some g := fun h => ownsRow_ne own1 hcg (by decide) g h rfl
  have hne2 : (Value.slice da D.length dc).ownBlock ≠ some l := fun h => ownsRow_ne own1 (unhide H1).lw (by decide) l h rfl
  have l5 : D.length + 1 ≤ maxLen := by unfold maxLen; omega
  have Hes := hide (sb_ls s)
  have qf := hcg.free (a * 3 + 1)
  clear own0 hEg hEl hcg o1z e1 c0 c1 c2 c3 f0 oD
  go_region_law
    ((refine step_append_lies _ (by rfl) _ _ _ (by rfl) 0 9 i0 _ 1 16 Try.underlying49 hi0 hz0 hz1 hz2 rfl (by omega) (.slice da D.length dc) D.length (lineV D) (by rfl) ((own1.alloc _).drew) ⟨W1.heap.size, 0, none⟩ 1 1 [.string s] (by rfl) (by rfl) (World.news_of_block (cs := #[.string s]) (t := 9) (fr := (0, 0)) (heap_alloc_new W1 _)) (by simp [Value.oneCell']) (by omega) l5 (by omega) (by simp) (W1.heap.size + 1) (by simp) ?_; intro gg cap3 w3 hown1 hgrow hat hlt3; have y3 := (hgrow.cell_far ⟨g, a * 3 + 1, none⟩ (by simp; omega) (Ne.symm hne1)).trans x1; have yz := (hgrow.frozen_far ⟨g, a * 3 + 1, none⟩ (by simp; omega) (Ne.symm hne1)).trans x1f; have y2 := (hgrow.cell_far ⟨l, 2, none⟩ (by simp; omega) (Ne.symm hne2)).trans x2))
  all_goals
    have oG : Only (fun y => (Value.slice da D.length dc).ownBlock = some y) W1 w3 := ((Only.refl (fun y => (Value.slice da D.length dc).ownBlock = some y) W1).alloc _).drew.grown hgrow (fun y hy _ => hy)
    have hown2 : OwnL w3 (.slice (some ⟨gg, 0, none⟩) (D.length + 1) cap3) (D ++ [ls s]) := OwnL.of (by
      rw [← lineV_snoc, List.length_append, unhide Hes]
      exact hown1)
    have hN := unhide HP (.slice (some ⟨gg, 0, none⟩) (D.length + 1) cap3) (D ++ [ls s]) w3 oG hown2 (fun k hk => by
      have hkk : gg = k := by simpa [Value.ownBlock] using hk
      subst hkk
      rcases hat with h | h
      · exact .inl h
      · exact .inr ⟨by omega, by have := ownsRow_lt hown1 gg rfl; omega⟩) (by simp; omega) (fun y hy => by
      rcases List.mem_append.1 hy with h | h
      · exact unhide Hst y h
      · have : y = ls s := by simpa using h
        rw [this, ls_len]
        exact hs9)
    have RR : Hid (Stp B l w (w3.setCell ⟨g, a * 3 + 1, none⟩ (.slice (some ⟨gg, 0, none⟩) (D.length + 1) cap3))) := hide ⟨hN, (((unhide O1).mono (T := fun y => B ≤ y) (fun y _ e => by rw [e]; exact hb)).trans oG (fun y _ hy => hvR y hy)).trans (donly1 (p := g) (a * 3 + 1) _) (fun y _ e => by rw [e]; exact hb)⟩
    clear hN oG hown1 hown2 hgrow hat
    go_wp2_with fail
    go_end0
    exact ⟨rfl, unhide RR⟩
end Go.Proofs.Qxb6500416a
