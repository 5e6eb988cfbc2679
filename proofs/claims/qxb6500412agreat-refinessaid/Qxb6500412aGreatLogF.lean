/-
  OWN WORK. THE LOG: flush, Commit.
-/
import Derived.Test.Qxb6500412aGreatLogC
import Derived.Deep.RegionWith
namespace Go.Proofs.Qxb6500412aGreat
open Go.RowKit
set_option linter.unusedSimpArgs false
set_option linter.unusedVariables false

def slotRecs (es : List (Nat × ByteArray)) (n : Nat) : List (Nat × ByteArray) := (List.range n).map fun i => (1 + i, ((es[i]?).map (·.2)).getD emptyB)
@[simp] theorem slotRecs_length (es : List (Nat × ByteArray)) (n : Nat) : (slotRecs es n).length = n := by simp [slotRecs]
theorem slotRecs_succ (es : List (Nat × ByteArray)) (n : Nat) (h : n < es.length) : slotRecs es (n + 1) = slotRecs es n ++ [(1 + n, es[n].2)] := by
  simp [slotRecs, List.range_succ, h]
/-- The slots, then the header: up to the commit point. -/
def headRecs (es : List (Nat × ByteArray)) : List (Nat × ByteArray) := slotRecs es es.length ++ [(0, header (es.map (·.1)))]
def commitRecs (blk : List ByteArray) (es : List (Nat × ByteArray)) : List (Nat × ByteArray) := headRecs es ++ installRecs (replay blk (headRecs es)) (header (es.map (·.1)))

theorem header_size (ns : List Nat) (h : ns.length ≤ 72) : (header ns).size = 128 := by
  unfold header
  show (headBytes ns ns.length).toArray.size = 128
  rw [List.size_toArray, headBytes_length ns ns.length (Nat.le_refl _) h]

theorem slotRecs_size (es : List (Nat × ByteArray)) (n : Nat) (hn : n ≤ es.length) (hs : ∀ e ∈ es, e.2.size = 128) : ∀ r ∈ slotRecs es n, r.2.size = 128 := by
  intro r hr
  simp only [slotRecs, List.mem_map, List.mem_range] at hr
  obtain ⟨i, hi, rfl⟩ := hr
  have : i < es.length := by omega
  simp only [List.getElem?_eq_getElem this, Option.map_some, Option.getD_some]
  exact hs _ (List.getElem_mem this)

theorem headRecs_size (es : List (Nat × ByteArray)) (hl : es.length ≤ 72) (hs : ∀ e ∈ es, e.2.size = 128) : ∀ r ∈ headRecs es, r.2.size = 128 := by
  intro r hr
  unfold headRecs at hr
  rcases List.mem_append.1 hr with hr | hr
  · exact slotRecs_size es _ (Nat.le_refl _) hs r hr
  · simp at hr; subst hr; exact header_size _ (by simpa using hl)

theorem replay_append (l : List ByteArray) (a b : List (Nat × ByteArray)) : replay l (a ++ b) = replay (replay l a) b := by simp [replay]

set_option maxRecDepth 100000 in
set_option maxHeartbeats 2000000 in
theorem wflush_any (l d : Nat) (op : Bool) (es : List (Nat × ByteArray)) (G : Nat → Prop) (blk base : List ByteArray) (recs : List (Nat × ByteArray)) (F : Nat → Prop) (w : World) (hl : LogAt w l d op es G) (hd : DiskAt w d blk base recs F)
    (hFG : ∀ k, G k → ¬ F k) (hs : ∀ x ∈ blk, x.size = 128) (hg : GoodSet op es) (hr : recs.length ≤ 300) :
    Calls Tryz.prog 210 #[.pointer (some ⟨l, 0, none⟩)] w fun e w' => e = .returned (.int .i64 0) ∧
      DiskAt w' d (replay blk (commitRecs blk es)) base (recs ++ commitRecs blk es) (Ext F w w') ∧ Only F w w' := by
  have hsh := hl.short
  have hlen := hd.len
  have hFi := hd.inn
  have Hg := hide hg
  have Hs := hide hs
  clear hg hs
  have hl0 := hl
  obtain ⟨⟨nb, db, gn, gd, h1, h2, h3, h4, h5, f1, f2, f3⟩, hi⟩ := hl
  go_enter Tryz.func210, Tryz.ntmps210
  go_wp2
  go_loopw [3] (fun v wr => ∃ k : Nat, k ≤ es.length ∧ v = .int .i64 k ∧ DiskAt wr d (replay blk (slotRecs es k)) base (recs ++ slotRecs es k) (Ext F w wr) ∧ Only F w wr) (fun v _ => es.length - (intOf v).toNat)
  case atStart => exact ⟨0, Nat.zero_le _, rfl, by simpa [slotRecs, replay] using hd.mono (fun k hk => .inl hk) (Ext.in hFi (Nat.le_refl _)), Only.refl F w⟩
  case round =>
    obtain ⟨k, hk, rfl, hdk, ho⟩ := hrel
    have e1 := h1.keep ho (hFG _ f1)
    have e2 := h2.keep ho (hFG _ f2)
    have e3 := h3.keep ho (hFG _ f3)
    have q0 := e1.cell 0
    have q2 := e1.cell 2
    have q3 := e1.cell 3
    have q4 := e1.cell 4
    by_cases hke : k < es.length
    · have hx := (unhide Hg).size _ (List.getElem_mem hke)
      have p2 := e3.cell k
      rw [data_at hke] at p2
      have c2 := fun wx hdx => dwrite_any d _ base _ (Ext F w wr) (1 + k) es[k].2 wx (hdx : DiskAt wx d (replay blk (slotRecs es k)) base (recs ++ slotRecs es k) (Ext F w wr)) (by omega) (by rw [hx]; decide) (by simp; omega)
      have i1 : ((1 + k : Nat) : Int) = 1 + (k : Int) := by omega
      rw [i1, blockOf_id _ hx] at c2
      have C2 := hide c2
      clear c2 i1
      have k72 : (k : Int) < 72 := by omega
      have k0 : (k : Int) < (es.length : Int) := by omega
      generalize hek : es[k].2 = x at *
      have Hek := hide hek
      clear hek hx
      go_wp2_with fail
      refine (slotAt_any _ _ (by omega) (by omega)).mono ?_
      rintro e w' ⟨rfl, rfl⟩
      go_wp2_with fail
      go_region_with (go_at_call 141; refine (unhide C2 _ ?_).mono ?_; exact hdk.keep ((Only.refl (fun _ => False) _).drew) (fun _ _ h => h); rintro e w2 ⟨rfl, hd2, ho2⟩)
      all_goals
        go_wp2_with fail
        go_roundw
        case rel =>
          have ho3 : Only (Ext F w wr) wr w2 := ((Only.refl (Ext F w wr) wr).drew).trans ho2 (fun _ _ h => h)
          refine ⟨k + 1, by omega, by go_num, ?_, ho.step ho3⟩
          rw [slotRecs_succ _ _ hke, unhide Hek, replay_snoc, ← List.append_assoc]
          exact hd2.mono (fun j hj => Ext.trans ho.size ho3.size j hj) (Ext.in hFi (Nat.le_trans ho.size ho3.size))
        case measure => simp [intOf]; omega
    · obtain rfl : k = es.length := by omega
      have hns : (es.map (·.1)).length = es.length := by simp
      have c1 := fun wx hx => headerOf_any nb (es.map (·.1)) gn wx hx (by simpa using h4) (by intro n hn; simp only [List.mem_map] at hn; obtain ⟨e, he, rfl⟩ := hn; exact (unhide Hg).inn e he)
      rw [hns, List.map_map] at c1
      have C1 := hide c1
      clear c1
      have hhs : (header (es.map (·.1))).size = 128 := header_size _ (by simpa using hsh)
      generalize hhd : header (es.map (·.1)) = hd0 at *
      have Hhd := hide hhd
      clear hhd
      go_wp2_with fail
      go_region_with (go_at_call 287; refine (unhide C1 _ ?_).mono ?_; exact e2.drew; rintro e w2 ⟨rfl, ho2⟩)
      all_goals
        have ho3 : Only (fun _ => False) wr w2 := ((Only.refl (fun _ => False) wr).drew).trans ho2 (fun _ _ h => h)
        have hd3 := hdk.keep ho3 (fun _ _ h => h)
        have r1 := e1.keep ho3 (fun h => h)
        have r0 := r1.cell 0
        have c2 := dwrite_any d _ base _ _ 0 hd0 w2 hd3 (by omega) (by rw [hhs]; decide) (by simp; omega)
        rw [blockOf_id _ hhs] at c2
        have C2 := hide c2
        clear c2
        go_wp2_with fail
        refine (unhide C2).mono ?_
        rintro e w4 ⟨rfl, hd4, ho4⟩
        have s1 := r1.keep ho4 (by intro h; rcases h with h | h; exact hFG _ f1 h; have := h1.lt; omega)
        have s0 := s1.cell 0
        have hr2 : replay (replay blk (slotRecs es es.length)) [(0, hd0)] = replay blk (headRecs es) := by rw [← replay_append, ← unhide Hhd]; rfl
        have hr2' : (replay blk (slotRecs es es.length)).set 0 hd0 = replay blk (headRecs es) := by rw [← hr2]; rfl
        rw [hr2'] at hd4
        have hr3 : recs ++ slotRecs es es.length ++ [(0, hd0)] = recs ++ headRecs es := by rw [← unhide Hhd, List.append_assoc]; rfl
        rw [hr3] at hd4
        have c5 := install_any d _ base _ _ hd0 w4 hd4 (replay_sizes _ _ (unhide Hs) (headRecs_size es hsh (unhide Hg).size)) hhs (by simp [headRecs]; omega)
        have C5 := hide c5
        clear c5 hr2 hr2' hr3
        go_wp2_with fail
        refine (unhide C5).mono ?_
        rintro e w5 ⟨rfl, hd5, ho5⟩
        go_wp2_with fail
        go_ret
        have ho6 : Only F w w2 := ho.trans ho3 (fun _ _ h => h.elim)
        have ho7 : Only F w w4 := ho6.trans ho4 (fun i hi h => by rcases h with h | h; exact h; omega)
        have ho8 : Only F w w5 := ho7.trans ho5 (fun i hi h => by rcases h with (h | h) | h; exact h; omega; have := ho6.size; omega)
        refine ⟨rfl, ?_, ho8⟩
        have hc : commitRecs blk es = headRecs es ++ installRecs (replay blk (headRecs es)) hd0 := by rw [← unhide Hhd]; rfl
        rw [hc, replay_append, ← List.append_assoc]
        refine hd5.mono (fun j hj => ?_) (Ext.in hFi ho8.size)
        rcases hj with ((hj | hj) | hj) | hj
        · exact .inl hj
        · exact .inr ⟨hj.1, Nat.lt_of_lt_of_le hj.2 (Nat.le_trans ho3.size (Nat.le_trans ho4.size ho5.size))⟩
        · exact .inr ⟨Nat.le_trans ho6.size hj.1, Nat.lt_of_lt_of_le hj.2 ho5.size⟩
        · exact .inr ⟨Nat.le_trans ho7.size hj.1, hj.2⟩

theorem wcommit_shut (l d : Nat) (es : List (Nat × ByteArray)) (F : Nat → Prop) (w : World) (hl : LogAt w l d false es F) :
    Calls Tryz.prog 149 #[.pointer (some ⟨l, 0, none⟩)] w fun e w' => e = .returned (.int .i64 2) ∧ w = w' := by
  obtain ⟨⟨nb, db, gn, gd, h1, h2, h3, h4, h5, f1, f2, f3⟩, hi⟩ := hl
  have c1 := h1.cell 1
  go_enter Tryz.func149, Tryz.ntmps149
  go_wp2_with fail
  go_ret
  exact ⟨rfl, rfl⟩

/-- The disk writes of a Commit. -/
def commitAll (blk : List ByteArray) (es : List (Nat × ByteArray)) : List (Nat × ByteArray) := if es = [] then [] else commitRecs blk es

set_option maxRecDepth 100000 in
set_option maxHeartbeats 1000000 in
theorem wcommit_open (l d : Nat) (es : List (Nat × ByteArray)) (G : Nat → Prop) (blk base : List ByteArray) (recs : List (Nat × ByteArray)) (F : Nat → Prop) (w : World) (hl : LogAt w l d true es G) (hd : DiskAt w d blk base recs F)
    (hFG : ∀ k, G k → ¬ F k) (hs : ∀ x ∈ blk, x.size = 128) (hg : GoodSet true es) (hr : recs.length ≤ 300) :
    Calls Tryz.prog 149 #[.pointer (some ⟨l, 0, none⟩)] w fun e w' => e = .returned (.int .i64 0) ∧
      DiskAt w' d (replay blk (commitAll blk es)) base (recs ++ commitAll blk es) (Ext F w w') ∧ LogAt w' l d false [] G ∧ Only (fun k => F k ∨ G k) w w' := by
  have hFi := hd.inn
  by_cases he : es = []
  · have hc : commitAll blk es = [] := by unfold commitAll; rw [if_pos he]
    rw [hc]
    subst he
    obtain ⟨hl1, ho1⟩ := log_shut hl
    obtain ⟨⟨nb, db, gn, gd, h1, h2, h3, h4, h5, f1, f2, f3⟩, hi⟩ := hl
    have c1 := h1.cell 1
    have c2 := h1.cell 2
    have z1 := h1.free 1
    have z2 := h1.free 2
    clear hc
    go_enter Tryz.func149, Tryz.ntmps149
    go_wp2_with fail
    go_ret
    refine ⟨rfl, ?_, hl1, ho1.mono (fun _ _ h => .inr h)⟩
    have := (hd.keep ho1 (fun k hk hg => hFG k hg hk)).mono (G := Ext F w ((w.setCell ⟨l, 1, none⟩ (.bool false)).setCell ⟨l, 2, none⟩ (.int .i64 0))) (fun k hk => .inl hk) (Ext.in hFi ho1.size)
    simpa [replay] using this
  · have hc : commitAll blk es = commitRecs blk es := by unfold commitAll; rw [if_neg he]
    rw [hc]
    have hpos : 0 < es.length := List.length_pos_iff.2 he
    have hpI : (0 : Int) < (es.length : Int) := by omega
    have C1 := hide (wflush_any l d true es G blk base recs F w hl hd hFG hs hg hr)
    have hl0 := hide hl
    obtain ⟨⟨nb, db, gn, gd, h1, h2, h3, h4, h5, f1, f2, f3⟩, hi⟩ := hl
    have c1 := h1.cell 1
    have c2 := h1.cell 2
    clear hc he
    go_enter Tryz.func149, Tryz.ntmps149
    go_wp2_with fail
    refine (unhide C1).mono ?_
    rintro e w1 ⟨rfl, hd1, ho1⟩
    obtain ⟨hl2, ho2⟩ := log_shut ((unhide hl0).keep ho1 hFG)
    have r1 := h1.keep ho1 (hFG _ f1)
    have d1 := r1.cell 1
    have d2 := r1.cell 2
    have z1 := r1.free 1
    have z2 := r1.free 2
    go_wp2_with fail
    go_ret
    refine ⟨rfl, ?_, hl2, (ho1.mono (fun _ _ h => .inl h)).trans ho2 (fun _ _ h => .inr h)⟩
    have := hd1.keep ho2 (fun k hk hg => by rcases hk with hk | hk; exact hFG k hg hk; have := hi k hg; omega)
    exact this.mono (fun k hk => by rcases hk with hk | hk; exact .inl hk; exact .inr ⟨hk.1, Nat.lt_of_lt_of_le hk.2 ho2.size⟩) (Ext.in hFi (Nat.le_trans ho1.size ho2.size))

end Go.Proofs.Qxb6500412aGreat
