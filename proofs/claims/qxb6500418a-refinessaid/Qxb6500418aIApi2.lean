/-
  OWN WORK. THE INDEX: api's With, Without.
-/
import Derived.Test.Qxb6500418aIApi
namespace Go.Proofs.Qxb6500418a
open Go.RowKit Go.PlainAid
set_option linter.unusedSimpArgs false
set_option linter.unusedVariables false

theorem Only.drewO {S : Nat → Prop} {a w : World} (h : Only S a w) (n : Nat) : Only S a (w.drewN n) := ⟨h.os, h.tape, h.output, h.size, h.block⟩
def ltS (a b : ByteArray) : Bool := Op.bytesLess a.toList b.toList
theorem ltS_irr (a : ByteArray) : ltS a a = false := by
  unfold ltS
  rw [bytesLess_eq]
  simp
def withL : List Fl → Fl → List Fl
  | [], f => [f]
  | g :: r, f => if ltS f.path g.path = true then f :: g :: r else if f.path = g.path then f :: r else g :: withL r f
theorem cat1 (A : List Fl) (x : Fl) (R : List Fl) : A ++ (x :: R) = (A ++ [x]) ++ R := by simp

/-- One file more. -/
theorem OwnF.push {w : World} {v : Value} {l : List Fl} {f : Fl} (h : w.ownsRow 0 40 3 v (l.length + 1) (flCells l ++ [.string f.path, .string f.data, .int .i64 f.mode])) : OwnF w v (l ++ [f]) := by
  unfold OwnF
  rw [flCells_snoc, List.length_append]
  exact h

/-- A list that grows, and a block that stands. -/
structure WI (w : World) (bx : Nat) (c : Array Value) (ov : Value) (outl : List Fl) (wr : World) : Prop where
  own : OwnF wr ov outl
  kb : Has wr bx c 40
  hb : ∀ y, ov.ownBlock = some y → w.heap.size ≤ y ∧ y ≠ bx
  ho : Only (fun _ => False) w wr
theorem WI.quiet {w : World} {bx : Nat} {c : Array Value} {ov : Value} {outl : List Fl} {wr w' : World} (h : WI w bx c ov outl wr) (ho : Only (fun _ => False) wr w') : WI w bx c ov outl w' :=
  ⟨h.own.keep ho (fun _ _ h => h), h.kb.keep ho (fun h => h), h.hb, h.ho.trans ho (fun _ _ h => h)⟩
theorem WI.push {w : World} {bx : Nat} {c : Array Value} {ov v' : Value} {outl : List Fl} {wr w' : World} {o : Obj} {n : Nat} (h : WI w bx c ov outl wr) (f : Fl) (hown : w'.ownsRow 0 40 3 v' n (flCells outl ++ [.string f.path, .string f.data, .int .i64 f.mode])) (hn : n = outl.length + 1)
    (hgrow : (wr.alloc o).grownBy w' ov.ownBlock) (hwhere : ∀ k, v'.ownBlock = some k → ov.ownBlock = some k ∨ k = wr.heap.size + 1) : WI w bx c v' (outl ++ [f]) w' := by
  have hs := h.ho.size
  have hbl := h.kb.lt
  subst hn
  refine ⟨OwnF.push hown, (hgrow.block bx (by simp; omega) (fun e => (h.hb bx e.symm).2 rfl)).trans (Has.alloc h.kb _), fun y hy => ?_, (h.ho.alloc _).grown hgrow (fun b hb hlt => by have := h.hb b hb; omega)⟩
  rcases hwhere y hy with e | e
  · exact h.hb y e
  · omega

set_option maxRecDepth 100000 in
set_option maxHeartbeats 4000000 in
theorem with_any {w : World} (v : Value) (l : List Fl) (f : Fl) (h : FilesIn w v l) (hlen : l.length ≤ 1000) :
    Calls Try.prog 45 #[v, .agg #[.string f.path, .string f.data, .int .i64 f.mode]] w fun e w' => ∃ v', e = .returned v' ∧ OwnF w' v' (withL l f) ∧ (∀ y, v'.ownBlock = some y → w.heap.size ≤ y) ∧ Only (fun _ => False) w w' := by
  obtain ⟨a, cap, rfl, hc⟩ := h
  obtain ⟨i0, hi0, hz0, hz1, hz2⟩ := info_parts Try.infoFile
  have Hc := hide hc
  have k0 := Has.new w #[.string f.path, .string f.data, .int .i64 f.mode] 40
  have o0 : Only (fun _ => False) w (w.alloc (.cells #[.string f.path, .string f.data, .int .i64 f.mode] 40)) := (Only.refl _ w).alloc _
  have hx : ∃ bx, bx = w.heap.size := ⟨_, rfl⟩
  obtain ⟨bx, hbx⟩ := hx
  have hbx1 : w.heap.size ≤ bx := by omega
  have hbx2 : bx < w.heap.size + 1 := by omega
  rw [← hbx] at k0
  have W0 : WI w bx #[.string f.path, .string f.data, .int .i64 f.mode] (.slice none 0 0) [] (w.alloc (.cells #[.string f.path, .string f.data, .int .i64 f.mode] 40)) := ⟨OwnF.nil _, k0, fun y hy => by simp [Value.ownBlock] at hy, o0⟩
  have HW0 := hide W0
  clear hc k0 o0 W0
  go_enter Try.func45, Try.ntmps45
  go_wp2_with fail
  rw [← hbx]
  have Hbx := hide hbx
  clear hbx
  go_loopw [5, 6, 7] (fun ov dv iv wr => ∃ (i : Nat) (dn : Bool) (outl : List Fl), i ≤ l.length ∧ iv = .int .i64 i ∧ dv = .bool dn ∧ outl.length ≤ i + (if dn = true then 1 else 0) ∧ withL l f = outl ++ (if dn = true then l.drop i else withL (l.drop i) f) ∧ WI w bx #[.string f.path, .string f.data, .int .i64 f.mode] ov outl wr) (fun _ _ iv _ => l.length - (intOf iv).toNat)
  case atStart => exact ⟨0, false, [], by omega, rfl, rfl, by simp, by simp, unhide HW0⟩
  case round =>
    clear HW0
    obtain ⟨i, dn, outl, hi, rfl, rfl, hol, hwl, hI⟩ := hrel
    have hbl := hI.kb.lt
    have hol1 : outl.length ≤ i + 1 := by split at hol <;> omega
    by_cases hil : i < l.length
    · obtain ⟨g, rfl, hcell⟩ := unhide Hc (by omega)
      have a1 : decide ((i : Int) < (l.length : Int)) = true := by simp; omega
      have a2 : (i : Int) < (l.length : Int) := by omega
      have hdr : l.drop i = l[i] :: l.drop (i + 1) := List.drop_eq_getElem_cons hil
      have hgl : g < w.heap.size := World.block_lt_of_cell? w _ (hcell i hil).1
      have hws := hI.ho.size
      have hgw : g < wr.heap.size := by omega
      have hgb : g ≠ bx := by omega
      have hbg : bx ≠ g := by omega
      have hcs : ∀ wx, Only (fun _ => False) w wx → wx.cell? ⟨g, i * 3, none⟩ = some (.string l[i].path) ∧ wx.cell? ⟨g, i * 3 + 1, none⟩ = some (.string l[i].data) ∧ wx.cell? ⟨g, i * 3 + 2, none⟩ = some (.int .i64 l[i].mode) := by
        intro wx hx
        have hbk := hx.block g hgl (fun h => h)
        obtain ⟨c0, c1, c2⟩ := hcell i hil
        exact ⟨(World.cell?_of_block hbk).trans c0, (World.cell?_of_block hbk).trans c1, (World.cell?_of_block hbk).trans c2⟩
      have hfs : ∀ ov' ol' wx, WI w bx #[.string f.path, .string f.data, .int .i64 f.mode] ov' ol' wx → wx.cell? ⟨bx, 0, none⟩ = some (.string f.path) ∧ wx.cell? ⟨bx, 1, none⟩ = some (.string f.data) ∧ wx.cell? ⟨bx, 2, none⟩ = some (.int .i64 f.mode) :=
        fun _ _ wx hx => ⟨hx.kb.cell 0, hx.kb.cell 1, hx.kb.cell 2⟩
      generalize hli : l[i] = li at *
      clear hcell hli
      have Hcs := hide hcs
      have Hfs := hide hfs
      clear hcs hfs
      rw [hdr] at hwl
      obtain ⟨c0, c1, c2⟩ := unhide Hcs wr hI.ho
      obtain ⟨f0, f1, f2⟩ := unhide Hfs _ _ _ hI
      cases dn with
      | true =>
        rw [if_pos rfl, cat1] at hwl
        have Hwl := hide hwl
        clear hwl hdr
        go_wp2_with fail
        go_quiet (fail)
        have hQ := hI.quiet ((Only.refl (fun _ => False) wr).drewO nq)
        obtain ⟨c0, c1, c2⟩ := unhide Hcs _ hQ.ho
        obtain ⟨f0, f1, f2⟩ := unhide Hfs _ _ _ hQ
        have hsq := hQ.ho.size
        have hbq := hQ.kb.lt
        generalize wr.drewN nq = W1 at *
        have hgq : g < W1.heap.size := by omega
        clear hI
        have own4 : W1.ownsRow 0 40 3 _ _ _ := hQ.own
        have HI4 := hide hQ
        clear hQ
        go_wp2_with (at_builtin; refine wpList_append2 _ rfl _ _ 34 rfl 40 i0 _ 3 40 Try.underlying34 hi0 hz0 hz1 hz2 rfl (by decide) _ _ _ rfl (own4.alloc _) ⟨W1.heap.size, 0, none⟩ 1 1 [.string li.path, .string li.data, .int .i64 li.mode] rfl rfl ?c1 ?c2 ?c3 ?c4 ?_)
        try (case c1 => exact news_ok _ _ _ _ rfl)
        case c2 => intro u hu; simp at hu; rcases hu with rfl | rfl | rfl <;> rfl
        case c3 => first | (unfold maxLen; simp; omega) | (unfold maxLen; omega)
        case c4 => first | omega | (simp; omega)
        intro v4 w4 hown' hgrow hwhere
        have h4 := (unhide HI4).push li hown' (by first | rfl | simp) hgrow hwhere
        clear hown' hgrow hwhere own4 HI4
        have HF := hide h4
        clear h4
        go_wp2_with fail
        go_roundw
        case rel => exact ⟨i + 1, true, outl ++ [li], by omega, by go_num, rfl, by simp at hol ⊢; omega, by rw [unhide Hwl]; first | rfl | simp, unhide HF⟩
        case measure => simp [intOf]; omega

      | false =>
        rw [if_neg (by simp)] at hwl
        by_cases hlt : ltS f.path li.path = true
        · have e1 : Op.bytesLess f.path.toList li.path.toList = true := hlt
          have hne : f.path ≠ li.path := fun e => by rw [e, ltS_irr] at hlt; cases hlt
          have e2 := str_ne hne
          have hw2 : withL (li :: l.drop (i + 1)) f = f :: li :: l.drop (i + 1) := by
            show (if ltS f.path li.path = true then _ else _) = _
            rw [if_pos hlt]
          rw [hw2, cat1, cat1] at hwl
          have Hwl := hide hwl
          clear hwl hdr hw2 hne hlt
          go_wp2_with fail
          go_quiet (fail)
          have hQ := hI.quiet ((Only.refl (fun _ => False) wr).drewO nq)
          obtain ⟨c0, c1, c2⟩ := unhide Hcs _ hQ.ho
          obtain ⟨f0, f1, f2⟩ := unhide Hfs _ _ _ hQ
          have hsq := hQ.ho.size
          have hbq := hQ.kb.lt
          generalize wr.drewN nq = W1 at *
          have hgq : g < W1.heap.size := by omega
          clear hI
          have own4 : W1.ownsRow 0 40 3 _ _ _ := hQ.own
          have HI4 := hide hQ
          clear hQ
          go_wp2_with (at_builtin; refine wpList_append2 _ rfl _ _ 34 rfl 40 i0 _ 3 40 Try.underlying34 hi0 hz0 hz1 hz2 rfl (by decide) _ _ _ rfl (own4.alloc _) ⟨W1.heap.size, 0, none⟩ 1 1 [.string f.path, .string f.data, .int .i64 f.mode] rfl rfl ?c1 ?c2 ?c3 ?c4 ?_)
          try (case c1 => exact news_ok _ _ _ _ rfl)
          case c2 => intro u hu; simp at hu; rcases hu with rfl | rfl | rfl <;> rfl
          case c3 => first | (unfold maxLen; simp; omega) | (unfold maxLen; omega)
          case c4 => first | omega | (simp; omega)
          intro v4 w4 hown' hgrow hwhere
          have h4 := (unhide HI4).push f hown' (by first | rfl | simp) hgrow hwhere
          clear hown' hgrow hwhere own4 HI4
          obtain ⟨c0, c1, c2⟩ := unhide Hcs _ h4.ho
          obtain ⟨f0, f1, f2⟩ := unhide Hfs _ _ _ h4
          have hs_w4 := h4.ho.size
          have hb_w4 := h4.kb.lt
          have hg_w4 : g < w4.heap.size := by omega
          go_wp2_with fail
          go_quiet (fail)
          have hR := h4.quiet ((Only.refl (fun _ => False) w4).drewO nq)
          obtain ⟨c0, c1, c2⟩ := unhide Hcs _ hR.ho
          have hsr := hR.ho.size
          generalize w4.drewN nq = W2 at *
          have hgr : g < W2.heap.size := by omega
          clear h4
          have own5 : W2.ownsRow 0 40 3 _ _ _ := hR.own
          have HI5 := hide hR
          clear hR
          go_wp2_with (at_builtin; refine wpList_append2 _ rfl _ _ 34 rfl 40 i0 _ 3 40 Try.underlying34 hi0 hz0 hz1 hz2 rfl (by decide) _ _ _ rfl (own5.alloc _) ⟨W2.heap.size, 0, none⟩ 1 1 [.string li.path, .string li.data, .int .i64 li.mode] rfl rfl ?c1 ?c2 ?c3 ?c4 ?_)
          try (case c1 => exact news_ok _ _ _ _ rfl)
          case c2 => intro u hu; simp at hu; rcases hu with rfl | rfl | rfl <;> rfl
          case c3 => first | (unfold maxLen; simp; omega) | (unfold maxLen; omega)
          case c4 => first | omega | (simp; omega)
          intro v5 w5 hown' hgrow hwhere
          have h5 := (unhide HI5).push li hown' (by first | rfl | simp) hgrow hwhere
          clear hown' hgrow hwhere own5 HI5
          have HF := hide h5
          clear h5
          go_wp2_with fail
          go_roundw
          case rel => exact ⟨i + 1, true, outl ++ [f] ++ [li], by omega, by go_num, rfl, by simp at hol ⊢; omega, by rw [unhide Hwl]; first | rfl | simp, unhide HF⟩
          case measure => simp [intOf]; omega

        · have hlt' : Op.bytesLess f.path.toList li.path.toList = false := by simpa [ltS] using hlt
          by_cases heq : f.path = li.path
          · have e1 : (Op.bytesLess f.path.toList li.path.toList || f.path.toList == li.path.toList) = true := by rw [heq]; simp
            have e2 : (f.path.toList == li.path.toList) = true := by rw [heq]; simp
            have hw2 : withL (li :: l.drop (i + 1)) f = f :: l.drop (i + 1) := by
              show (if ltS f.path li.path = true then _ else if f.path = li.path then _ else _) = _
              rw [if_neg hlt, if_pos heq]
            rw [hw2, cat1] at hwl
            have Hwl := hide hwl
            clear hwl hdr hw2 heq hlt hlt'
            go_wp2_with fail
            go_quiet (fail)
            have hQ := hI.quiet ((Only.refl (fun _ => False) wr).drewO nq)
            obtain ⟨c0, c1, c2⟩ := unhide Hcs _ hQ.ho
            obtain ⟨f0, f1, f2⟩ := unhide Hfs _ _ _ hQ
            have hsq := hQ.ho.size
            have hbq := hQ.kb.lt
            generalize wr.drewN nq = W1 at *
            have hgq : g < W1.heap.size := by omega
            clear hI
            have own4 : W1.ownsRow 0 40 3 _ _ _ := hQ.own
            have HI4 := hide hQ
            clear hQ
            go_wp2_with (at_builtin; refine wpList_append2 _ rfl _ _ 34 rfl 40 i0 _ 3 40 Try.underlying34 hi0 hz0 hz1 hz2 rfl (by decide) _ _ _ rfl (own4.alloc _) ⟨W1.heap.size, 0, none⟩ 1 1 [.string f.path, .string f.data, .int .i64 f.mode] rfl rfl ?c1 ?c2 ?c3 ?c4 ?_)
            try (case c1 => exact news_ok _ _ _ _ rfl)
            case c2 => intro u hu; simp at hu; rcases hu with rfl | rfl | rfl <;> rfl
            case c3 => first | (unfold maxLen; simp; omega) | (unfold maxLen; omega)
            case c4 => first | omega | (simp; omega)
            intro v4 w4 hown' hgrow hwhere
            have h4 := (unhide HI4).push f hown' (by first | rfl | simp) hgrow hwhere
            clear hown' hgrow hwhere own4 HI4
            obtain ⟨c0, c1, c2⟩ := unhide Hcs _ h4.ho
            obtain ⟨f0, f1, f2⟩ := unhide Hfs _ _ _ h4
            have hs_w4 := h4.ho.size
            have hb_w4 := h4.kb.lt
            have hg_w4 : g < w4.heap.size := by omega
            go_wp2_with fail
            go_quiet (fail)
            have hR := h4.quiet ((Only.refl (fun _ => False) w4).drewO nq)
            generalize w4.drewN nq = W2 at *
            clear h4
            have HF := hide hR
            clear hR
            go_wp2_with fail
            go_roundw
            case rel => exact ⟨i + 1, true, outl ++ [f], by omega, by go_num, rfl, by simp at hol ⊢; omega, by rw [unhide Hwl]; first | rfl | simp, unhide HF⟩
            case measure => simp [intOf]; omega

          · have e2 := str_ne heq
            have hw2 : withL (li :: l.drop (i + 1)) f = li :: withL (l.drop (i + 1)) f := by
              show (if ltS f.path li.path = true then _ else if f.path = li.path then _ else _) = _
              rw [if_neg hlt, if_neg heq]
            rw [hw2, cat1] at hwl
            have Hwl := hide hwl
            clear hwl hdr hw2 heq hlt
            go_wp2_with fail
            go_quiet (fail)
            have hQ := hI.quiet ((Only.refl (fun _ => False) wr).drewO nq)
            obtain ⟨c0, c1, c2⟩ := unhide Hcs _ hQ.ho
            obtain ⟨f0, f1, f2⟩ := unhide Hfs _ _ _ hQ
            have hsq := hQ.ho.size
            have hbq := hQ.kb.lt
            generalize wr.drewN nq = W1 at *
            have hgq : g < W1.heap.size := by omega
            clear hI
            have own4 : W1.ownsRow 0 40 3 _ _ _ := hQ.own
            have HI4 := hide hQ
            clear hQ
            go_wp2_with (at_builtin; refine wpList_append2 _ rfl _ _ 34 rfl 40 i0 _ 3 40 Try.underlying34 hi0 hz0 hz1 hz2 rfl (by decide) _ _ _ rfl (own4.alloc _) ⟨W1.heap.size, 0, none⟩ 1 1 [.string li.path, .string li.data, .int .i64 li.mode] rfl rfl ?c1 ?c2 ?c3 ?c4 ?_)
            try (case c1 => exact news_ok _ _ _ _ rfl)
            case c2 => intro u hu; simp at hu; rcases hu with rfl | rfl | rfl <;> rfl
            case c3 => first | (unfold maxLen; simp; omega) | (unfold maxLen; omega)
            case c4 => first | omega | (simp; omega)
            intro v4 w4 hown' hgrow hwhere
            have h4 := (unhide HI4).push li hown' (by first | rfl | simp) hgrow hwhere
            clear hown' hgrow hwhere own4 HI4
            have HF := hide h4
            clear h4
            go_wp2_with fail
            go_roundw
            case rel => exact ⟨i + 1, false, outl ++ [li], by omega, by go_num, rfl, by simp at hol ⊢; omega, by rw [unhide Hwl]; first | rfl | simp, unhide HF⟩
            case measure => simp [intOf]; omega

    · obtain rfl : i = l.length := by omega
      have a1 : decide ((l.length : Int) < (l.length : Int)) = false := by simp
      rw [List.drop_length] at hwl
      cases dn with
      | true =>
        rw [if_pos rfl, List.append_nil] at hwl
        have Hwl := hide hwl
        have HI := hide hI
        clear hwl hI
        go_wp2_with fail
        go_ret
        exact ⟨_, rfl, by rw [unhide Hwl]; exact (unhide HI).own, fun y hy => ((unhide HI).hb y hy).1, (unhide HI).ho⟩
      | false =>
        rw [if_neg (by simp)] at hwl
        have hwl' : withL l f = outl ++ [f] := hwl
        have Hwl := hide hwl'
        have hws := hI.ho.size
        have f0 : wr.cell? ⟨bx, 0, none⟩ = some (.string f.path) := hI.kb.cell 0
        have f1 : wr.cell? ⟨bx, 1, none⟩ = some (.string f.data) := hI.kb.cell 1
        have f2 : wr.cell? ⟨bx, 2, none⟩ = some (.int .i64 f.mode) := hI.kb.cell 2
        clear hwl hwl'
        have own4 : wr.ownsRow 0 40 3 _ _ _ := hI.own
        have HI4 := hide hI
        clear hI
        go_wp2_with (at_builtin; refine wpList_append2 _ rfl _ _ 34 rfl 40 i0 _ 3 40 Try.underlying34 hi0 hz0 hz1 hz2 rfl (by decide) _ _ _ rfl (own4.alloc _) ⟨wr.heap.size, 0, none⟩ 1 1 [.string f.path, .string f.data, .int .i64 f.mode] rfl rfl ?c1 ?c2 ?c3 ?c4 ?_)
        try (case c1 => exact news_ok _ _ _ _ rfl)
        case c2 => intro u hu; simp at hu; rcases hu with rfl | rfl | rfl <;> rfl
        case c3 => first | (unfold maxLen; simp; omega) | (unfold maxLen; omega)
        case c4 => first | omega | (simp; omega)
        intro v4 w4 hown' hgrow hwhere
        have h4 := (unhide HI4).push f hown' (by first | rfl | simp) hgrow hwhere
        clear hown' hgrow hwhere own4 HI4
        have HF := hide h4
        clear h4
        go_wp2_with fail
        go_ret
        exact ⟨_, rfl, by rw [unhide Hwl]; exact (unhide HF).own, fun y hy => ((unhide HF).hb y hy).1, (unhide HF).ho⟩


end Go.Proofs.Qxb6500418a
