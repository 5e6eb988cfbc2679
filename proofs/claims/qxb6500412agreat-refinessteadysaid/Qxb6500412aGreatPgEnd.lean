/-
  OWN WORK. THE PAGER's METHODS: Abort, Commit, New, Open.
-/
import Derived.Test.Qxb6500412aGreatPgTxn
namespace Go.Proofs.Qxb6500412aGreat
open Go.RowKit
set_option linter.unusedSimpArgs false
set_option linter.unusedVariables false

section
variable {w : World} {p l d : Nat} {op : Bool} {fr : List Frame} {ord : List Nat} {blk base : List ByteArray} {recs : List (Nat × ByteArray)} {com cur view : List ByteArray} {F G : Nat → Prop}

theorem pabort_shut (h : PG w p l d blk base recs false com view F G) :
    Calls Tryz.prog 336 #[.pointer (some ⟨p, 0, Option.none⟩)] w fun e w' => e = .returned (.int .i64 2) ∧ w = w' := by
  have c1 := h.openc
  go_enter Tryz.func336, Tryz.ntmps336
  go_wp2_with fail
  go_ret
  exact ⟨rfl, rfl⟩

set_option maxRecDepth 100000 in
set_option maxHeartbeats 1000000 in
theorem pabort_open (h : PG w p l d blk base recs true com view F G) :
    Calls Tryz.prog 336 #[.pointer (some ⟨p, 0, Option.none⟩)] w fun e w' => e = .returned (.int .i64 0) ∧ PG w' p l d blk base recs false com (com.take 72) F G ∧ Only (fun k => G k ∨ k = p) w w' := by
  obtain ⟨⟨fr, ord, cur, g1, g2, g3⟩, pF, pG⟩ := h
  obtain ⟨c0, c1, z1⟩ := g1.head
  have hcom := g2.com_size
  have hlc := g2.lcom
  go_enter Tryz.func336, Tryz.ntmps336
  go_wp2_with fail
  go_loopw [3] (fun v wr => ∃ f : Nat, f ≤ 5 ∧ v = .int .i64 f ∧ PAt wr p l true (nones.take f ++ fr.drop f) ord ∧ Only (fun k => k = p) w wr) (fun v _ => (5 - intOf v).toNat)
  case atStart => exact ⟨0, by omega, rfl, by simpa using g1, Only.refl _ w⟩
  case round =>
    obtain ⟨f, hf, rfl, hp, ho⟩ := hrel
    by_cases hf5 : f < 5
    · obtain ⟨q0, q1, q2, q3, y0, y1, y2, y3⟩ := hp.cells4 f hf5
      have hs := hp.storeFr f Frame.none hf5
      have hmx := mix_set nones fr f (by simp [nones]; omega) (by rw [g3.lf]; rfl)
      have hnl : f < nones.length := hf5
      have hnn : nones[f]'hnl = Frame.none := by rw [← fa_get hnl]; exact fa_nones f
      rw [hnn] at hmx
      rw [hmx] at hs
      have o2 := ho.trans (onlyFr wr p f Frame.none) (fun _ _ h => h)
      have ew : ((((wr.setCell ⟨p, 2 + f * 4, Option.none⟩ (.int .i64 0)).setCell ⟨p, 2 + f * 4 + 1, Option.none⟩ (.bool false)).setCell ⟨p, 2 + f * 4 + 2, Option.none⟩ (.bool false)).setCell ⟨p, 2 + f * 4 + 3, Option.none⟩ (.string ⟨#[]⟩)) = storeFr wr p f Frame.none := rfl
      have Hs := hide hs
      generalize fa (nones.take f ++ fr.drop f) f = gg at *
      clear hs hmx hnn hp
      go_wp2_with fail
      go_roundw
      case rel => exact ⟨f + 1, by omega, by go_num, unhide Hs, o2⟩
      case measure => simp [intOf]; omega
    · obtain rfl : f = 5 := by omega
      have hp' : PAt wr p l true nones ord := by
        have e1 : nones.take 5 ++ fr.drop 5 = nones := by
          rw [List.drop_of_length_le (by rw [g3.lf]; omega), List.append_nil]; rfl
        rw [e1] at hp; exact hp
      have g2' := g2.keep ho (fun k hk e => pF (e ▸ hk)) (fun k hk e => pG (e ▸ hk))
      obtain ⟨d0, d1, y1⟩ := hp'.head
      have C1 := hide (labort_any g2')
      clear hp
      go_wp2_with fail
      refine (unhide C1).mono ?_
      rintro e w1 ⟨rfl, l1, ho1⟩
      have h1 := hp'.keep ho1 pG
      obtain ⟨e0, e1, x1⟩ := h1.head
      have h2 := h1.setOp false
      have o2 := PAt.only1 (w := w1) (p := p) 1 (.bool false)
      go_wp2_with fail
      go_ret
      refine ⟨rfl, ⟨⟨nones, ord, com, h2, l1.keep o2 (fun k hk e => pF (e ▸ hk)) (fun k hk e => pG (e ▸ hk)), PInv.blank g3.lo g3.oin g3.ond hlc hcom⟩, pF, pG⟩, ?_⟩
      exact ((ho.mono (fun _ _ h => .inr h)).trans ho1 (fun _ _ h => .inl h)).trans o2 (fun _ _ h => .inr h)

/-- A dirty frame has gone down: it is clean. -/
theorem PInv.flush (h : PInv fr ord op cur view) {f : Nat} (hv : (fa fr f).valid = true) :
    PInv (fr.set f ⟨(fa fr f).page, true, false, (fa fr f).data⟩) ord op (cur.set (fa fr f).page (fa fr f).data) view := by
  have hf' := fa_lt hv
  obtain ⟨hp, hsz, hvw⟩ := h.page f hv
  have hset := fun i => fa_set (fr := fr) (⟨(fa fr f).page, true, false, (fa fr f).data⟩ : Frame) i hf'
  have hval : ∀ i, (fa (fr.set f ⟨(fa fr f).page, true, false, (fa fr f).data⟩) i).valid = (fa fr i).valid := by
    intro i; rw [hset]; split
    · rename_i e; subst e; exact hv.symm
    · rfl
  have hpg : ∀ i, (fa (fr.set f ⟨(fa fr f).page, true, false, (fa fr f).data⟩) i).page = (fa fr i).page := by
    intro i; rw [hset]; split
    · rename_i e; subst e; rfl
    · rfl
  have hdt : ∀ i, (fa (fr.set f ⟨(fa fr f).page, true, false, (fa fr f).data⟩) i).data = (fa fr i).data := by
    intro i; rw [hset]; split
    · rename_i e; subst e; rfl
    · rfl
  have hcur : ∀ c, (cur.set (fa fr f).page (fa fr f).data).getD c emptyB = if c = (fa fr f).page then (fa fr f).data else cur.getD c emptyB := fun c => getD_set cur _ c _ _ (by rw [h.lc]; omega)
  refine ⟨by simpa using h.lf, h.lo, h.lv, by simpa using h.lc, h.oin, h.ond, ?_, ?_, ?_, ?_, ?_, ?_, ?_, h.sz⟩
  · refine h.opw.imp ?_
    intro x y hxy
    rw [hval, hval]; exact hxy
  · intro i hi
    rw [hval] at hi
    rw [hpg, hdt]
    exact h.page i hi
  · intro i j hi hj hpp
    rw [hval] at hi hj
    rw [hpg, hpg] at hpp
    exact h.uniq i j hi hj hpp
  · intro i hi
    rw [hval] at hi
    have : i ≠ f := fun e => by subst e; rw [hv] at hi; cases hi
    rw [hset, if_neg this]
    exact h.nul i hi
  · intro i hi hd
    rw [hval] at hi
    rw [hpg, hdt, hcur]
    by_cases e : i = f
    · subst e; rw [if_pos rfl]
    · rw [hset, if_neg e] at hd
      rw [if_neg (fun e' => e (h.uniq i f hi hv e'))]
      exact h.clean i hi hd
  · intro i hi hd
    rw [hval] at hi
    by_cases e : i = f
    · rw [hset, if_pos e] at hd; cases hd
    · rw [hset, if_neg e] at hd; exact h.dop i hi hd
  · intro c hc hno
    have hcp : c ≠ (fa fr f).page := fun e => by
      have := hno f (by rw [hval]; exact hv)
      rw [hpg] at this
      exact this e.symm
    rw [hcur, if_neg hcp]
    refine h.miss c hc (fun i hi => ?_)
    have := hno i (by rw [hval]; exact hi)
    rw [hpg] at this
    exact this

theorem PAt.setClean (h : PAt w p l op fr ord) (f : Nat) (hf : f < 5) : PAt (w.setCell ⟨p, 2 + f * 4 + 2, Option.none⟩ (.bool false)) p l op (fr.set f ⟨(fa fr f).page, (fa fr f).valid, false, (fa fr f).data⟩) ord := by
  have hf' : f < fr.length := by rw [h.lf]; exact hf
  refine ⟨?_, by simpa using h.lf, h.lo⟩
  have := h.has.setCell (2 + f * 4 + 2) (.bool false)
  have e : (pcells l op fr ord).setIfInBounds (2 + f * 4 + 2) (.bool false) = pcells l op (fr.set f ⟨(fa fr f).page, (fa fr f).valid, false, (fa fr f).data⟩) ord := by
    unfold pcells
    apply Array.ext'
    rw [Array.toList_setIfInBounds]
    show List.set _ _ _ = _
    rw [show 2 + f * 4 + 2 = (f * 4 + 2) + 1 + 1 by omega, List.set_cons_succ, List.set_cons_succ, List.set_append_left _ _ (by rw [frCells_length]; omega)]
    rw [frCells_set fr f 2 ⟨(fa fr f).page, (fa fr f).valid, false, (fa fr f).data⟩ _ hf' (by omega) (by rw [fa_get hf']; rfl)]
  rw [e] at this
  exact this

theorem LG.monoF {F' : Nat → Prop} (h : LG w l d blk base recs op com cur F G) (hF : ∀ k, F k → F' k) (hin : ∀ k, F' k → k < w.heap.size) (hFG : ∀ k, F' k → ¬ G k) : LG w l d blk base recs op com cur F' G :=
  ⟨h.ex, h.dk.mono hF hin, hFG⟩

theorem pcommit_shut (h : PG w p l d blk base recs false com view F G) :
    Calls Tryz.prog 90 #[.pointer (some ⟨p, 0, Option.none⟩)] w fun e w' => e = .returned (.int .i64 2) ∧ w = w' := by
  have c1 := h.openc
  go_enter Tryz.func90, Tryz.ntmps90
  go_wp2_with fail
  go_ret
  exact ⟨rfl, rfl⟩

set_option maxRecDepth 100000 in
set_option maxHeartbeats 2000000 in
theorem pcommit_open (h : PG w p l d blk base recs true com view F G) (hrc : recs.length ≤ 300) :
    Calls Tryz.prog 90 #[.pointer (some ⟨p, 0, Option.none⟩)] w fun e w' => e = .returned (.int .i64 0) ∧
      ∃ rs com', PG w' p l d (replay blk rs) base (recs ++ rs) false com' view (Ext F w w') G ∧ CutInv blk rs com com' ∧ Only (fun k => F k ∨ G k ∨ k = p) w w' := by
  have hplt : p < w.heap.size := by obtain ⟨⟨fr, ord, cur, g1, g2, g3⟩, pF, pG⟩ := h; exact g1.has.lt
  have c1 := h.openc
  obtain ⟨⟨fr, ord, cur, g1, g2, g3⟩, pF, pG⟩ := h
  have hGi := g2.inG
  have hFi := g2.inF
  have hFG := g2.FG
  go_enter Tryz.func90, Tryz.ntmps90
  go_wp2_with fail
  go_loopw [3] (fun v wr => ∃ (f : Nat) (fr' : List Frame) (cur' : List ByteArray), f ≤ 5 ∧ v = .int .i64 f ∧ PAt wr p l true fr' ord ∧ LG wr l d blk base recs true com cur' F G ∧ PInv fr' ord true cur' view ∧ (∀ i, i < f → (fa fr' i).valid = true → (fa fr' i).dirty = false) ∧ Only (fun k => G k ∨ k = p) w wr) (fun v _ => (5 - intOf v).toNat)
  case atStart => exact ⟨0, fr, cur, by omega, rfl, g1, g2, g3, fun i hi => by omega, Only.refl _ w⟩
  case round =>
    obtain ⟨f, fr', cur', hf, rfl, hp, hl, hi, hcl, ho⟩ := hrel
    clear g1 g2 g3
    have Hcl := hide hcl
    clear hcl
    by_cases hf5 : f < 5
    · obtain ⟨q0, q1, q2, q3, y0, y1, y2, y3⟩ := hp.cells4 f hf5
      obtain ⟨b0, _, _⟩ := hp.head
      have hfl : f < fr'.length := by rw [hi.lf]; exact hf5
      by_cases hd : ((fa fr' f).valid && (fa fr' f).dirty) = true
      · simp only [Bool.and_eq_true] at hd
        obtain ⟨hv, hdt⟩ := hd
        obtain ⟨hpg, hsz, _⟩ := hi.page f hv
        have od : Only (fun _ => False) wr wr.drew := (Only.refl _ wr).drew
        have C1 := hide (lwrite_any (hl.quiet od) (fa fr' f).page (fa fr' f).data hpg hsz)
        have hi2 := hi.flush hv
        have hp2 : ∀ w2 : World, PAt w2 p l true fr' ord → PAt (w2.setCell ⟨p, 2 + f * 4 + 2, Option.none⟩ (.bool false)) p l true (fr'.set f ⟨(fa fr' f).page, true, false, (fa fr' f).data⟩) ord := by
          intro w2 h2
          have := h2.setClean f hf5
          rw [hv] at this
          exact this
        have hcl2 : ∀ i, i < f + 1 → (fa (fr'.set f ⟨(fa fr' f).page, true, false, (fa fr' f).data⟩) i).valid = true → (fa (fr'.set f ⟨(fa fr' f).page, true, false, (fa fr' f).data⟩) i).dirty = false := by
          intro i hif hvi
          rw [fa_set _ _ hfl] at hvi ⊢
          by_cases e : i = f
          · rw [if_pos e]
          · rw [if_neg e] at hvi ⊢; exact unhide Hcl i (by omega) hvi
        rw [hv] at q1
        rw [hdt] at q2
        generalize (fa fr' f).page = pg at *
        generalize (fa fr' f).data = dat at *
        have Hi2 := hide hi2
        have Hp2 := hide hp2
        have Hcl2 := hide hcl2
        clear hi2 hp2 hcl2 hv hdt
        go_wp2_with fail
        go_cut [48] (fun v wx => v = .bool false ∧ LG wx l d blk base recs true com (cur'.set pg dat) F G ∧ Only G wr wx)
        case first =>
          go_region_with (go_at_call 148; refine (unhide C1).mono ?_; rintro e w2 ⟨rfl, hl2, ho2⟩)
          all_goals
            go_wp2_with fail
            go_meet
            exact ⟨rfl, hl2, (Only.refl G wr).drew.trans ho2 (fun _ _ h => h)⟩
        case rest =>
          obtain ⟨rfl, hl2, ho2⟩ := hcut
          have h2 := hp.keep ho2 pG
          obtain ⟨_, _, r2, _, _, _, x2, _⟩ := h2.cells4 f hf5
          have h3 := unhide Hp2 wc h2
          have o3 := PAt.only1 (w := wc) (p := p) (2 + f * 4 + 2) (.bool false)
          clear q0 q1 q2 q3 y0 y1 y2 y3
          go_wp2_with fail
          go_roundw
          case rel => exact ⟨f + 1, _, _, by omega, by go_num, h3, hl2.keep o3 (fun k hk e => pF (e ▸ hk)) (fun k hk e => pG (e ▸ hk)), unhide Hi2, unhide Hcl2, (ho.trans ho2 (fun _ _ h => .inl h)).trans o3 (fun _ _ h => .inr h)⟩
          case measure => simp [intOf]; omega
      · have hcl2 : ∀ i, i < f + 1 → (fa fr' i).valid = true → (fa fr' i).dirty = false := by
          intro i hif hvi
          by_cases e : i = f
          · subst e; rw [hvi] at hd; simpa using hd
          · exact unhide Hcl i (by omega) hvi
        have hd' : ((fa fr' f).valid && (fa fr' f).dirty) = false := by simpa using hd
        have Hcl2 := hide hcl2
        clear hcl2 hd
        generalize (fa fr' f).valid = vl at *
        generalize (fa fr' f).dirty = dt at *
        cases vl with
        | false =>
          clear hd'
          go_wp2_with fail
          go_roundw
          case rel => exact ⟨f + 1, fr', cur', by omega, by go_num, hp, hl, hi, unhide Hcl2, ho⟩
          case measure => simp [intOf]; omega
        | true =>
          obtain rfl : dt = false := by simpa using hd'
          clear hd'
          go_wp2_with fail
          go_roundw
          case rel => exact ⟨f + 1, fr', cur', by omega, by go_num, hp, hl, hi, unhide Hcl2, ho⟩
          case measure => simp [intOf]; omega
    · obtain rfl : f = 5 := by omega
      obtain ⟨b0, b1, _⟩ := hp.head
      have C1 := hide (lcommit_any hl hrc)
      have hfi := hl.inF
      have so := ho.size
      have hdop : ∀ i, (fa fr' i).valid = true → (fa fr' i).dirty = true → false = true := by
        intro i hv hd
        have hi5 : i < 5 := by have := fa_lt hv; rw [hi.lf] at this; exact this
        rw [unhide Hcl i hi5 hv] at hd
        cases hd
      have hi2 : PInv fr' ord false cur' view := { hi with dop := hdop }
      clear hdop
      have Hi2 := hide hi2
      have Fin := hide hl.dk.inn
      clear hi2
      go_wp2_with fail
      refine (unhide C1).mono ?_
      rintro e w1 ⟨rfl, rs, l1, hcu, ho1⟩
      have pF' : ¬ Ext F wr w1 p := by
        intro h; rcases h with h | h
        · exact pF h
        · omega
      have h1 := hp.keep ho1 (fun h => by rcases h with h | h; exact pF h; exact pG h)
      obtain ⟨e0, e1, x1⟩ := h1.head
      have h2 := h1.setOp false
      have o2 := PAt.only1 (w := w1) (p := p) 1 (.bool false)
      go_wp2_with fail
      go_ret
      have s1 := ho1.size
      have oall : Only (fun k => F k ∨ G k ∨ k = p) w (w1.setCell ⟨p, 1, Option.none⟩ (.bool false)) := ((ho.mono (fun _ _ h => by rcases h with h | h; exact .inr (.inl h); exact .inr (.inr h))).trans ho1 (fun _ _ h => by rcases h with h | h; exact .inl h; exact .inr (.inl h))).trans o2 (fun _ _ h => .inr (.inr h))
      have l2 := l1.keep o2 (fun k hk e => pF' (e ▸ hk)) (fun k hk e => pG (e ▸ hk))
      refine ⟨rfl, rs, cur', ⟨⟨fr', ord, cur', h2, l2.monoF (fun k hk => ?_) (Ext.in hFi oall.size) (Ext.off hFG hGi), unhide Hi2⟩, fun h => ?_, pG⟩, hcu, oall⟩
      · rcases hk with hk | hk
        · exact .inl hk
        · exact .inr ⟨by omega, by simp; exact hk.2⟩
      · rcases h with h | h
        · exact pF h
        · omega
end
end Go.Proofs.Qxb6500412aGreat
