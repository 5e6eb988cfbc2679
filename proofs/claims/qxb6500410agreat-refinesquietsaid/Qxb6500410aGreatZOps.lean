/-
  OWN WORK. THE FOREST MODEL: what turns what it shows: Begin, Create, Drop, Abort.
-/
import Derived.Test.Qxb6500410aGreatZGet
namespace Go.Proofs.Qxb6500410aGreat
open Go.RowKit Go.PlainAid
set_option linter.unusedSimpArgs false
set_option linter.unusedVariables false

def zG (a r : Nat → Value) (op : Bool) (j : Nat) : Value := if j < 16 then a j else if j = 49 then .bool op else r j
def Apart (es : Nat → Value) : Prop := ∀ i j g, i < 8 → j < 8 → i ≠ j → (es i).ownBlock = some g → (es j).ownBlock ≠ some g
section
variable {w w' : World} {m : Nat} {S T U : Vu} {hist : Option Vu} {op : Bool} {H : Nat → Prop}
theorem zFtoG {a b c : Nat → Value} {hv : Value} : tabV 50 (zF a b c hv op) = tabV 50 (zG a (zF a b c hv op) op) := tabV_congr 50 (fun j hj => by
  unfold zG
  by_cases h1 : j < 16
  · rw [if_pos h1]; exact zF_cur h1
  · rw [if_neg h1]
    by_cases h2 : j = 49
    · rw [if_pos h2, h2]; rfl
    · rw [if_neg h2])
theorem zGtoF {a a' b c : Nat → Value} {hv : Value} {op' : Bool} : tabV 50 (zG a' (zF a b c hv op) op') = tabV 50 (zF a' b c hv op') := tabV_congr 50 (fun j hj => by
  unfold zG zF
  by_cases h1 : j < 16
  · rw [if_pos h1, if_pos h1]
  · rw [if_neg h1, if_neg h1]
    by_cases h2 : j = 49
    · subst h2; simp
    · rw [if_neg h2, if_neg h1]
      by_cases h3 : j < 32
      · rw [if_pos h3, if_pos h3]
      · rw [if_neg h3, if_neg h3]
        by_cases h4 : j < 48
        · rw [if_pos h4, if_pos h4]
        · rw [if_neg h4, if_neg h4, if_pos (by omega), if_pos (by omega)])
/-- The shown state may turn; the rest stands. -/
theorem ZAt.curL (h : ZAt w m S T U hist op H) : ∃ es r, Has w m (tabV 50 (zG (stF S es) r op)) 84 ∧ ZE w es S ∧ Apart es ∧ (∀ k, EB es k → H k ∧ k ≠ m) ∧ StA w m 16 T (fun i => r (24 + i)) ∧ ZE w (fun i => r (24 + i)) T ∧
    ∀ {w' : World} {S' : Vu} {es' : Nat → Value} {op' : Bool} {H' B : Nat → Prop}, Only B w w' → (∀ k, B k → k = m ∨ EB es k) → Has w' m (tabV 50 (zG (stF S' es') r op')) 84 → ZE w' es' S' → Apart es' → (∀ k, EB es' k → EB es k ∨ w.heap.size ≤ k) → Vok S' → (∀ k, H k → H' k) → (∀ k, EB es' k → H' k) → (∀ k, H' k → k < w'.heap.size) → ZAt w' m S' T U hist op' H' := by
  obtain ⟨es, et, eu, hv, O, h1, h2, h3, h4, h5, h6, h7, h8, h9, h10⟩ := h.ex
  have het : ∀ i, i < 8 → zF (stF S es) (stF T et) (stF U eu) hv op (24 + i) = et i := fun i hi => by
    rw [show 24 + i = 16 + (8 + i) by omega, zF_com (by omega)]
    unfold stF
    rw [if_neg (by omega), Nat.add_sub_cancel_left]
  have nem : ∀ k, EB es k → k ≠ m := fun k ⟨i, hi, hk⟩ e => by
    exact ownsRow_ne (h2.own i hi) h1 (by decide) k hk e
  refine ⟨es, zF (stF S es) (stF T et) (stF U eu) hv op, zFtoG ▸ h1, h2, h10, fun k hk => ⟨(h8 k hk).2, nem k hk⟩, fun j hj => ?_, ⟨fun i hi => by rw [het i hi]; exact h3.own i hi⟩, ?_⟩
  · rw [h1.cell, tabV_get _ _ _ (by omega), zF_com hj]
    have := het (j - 8)
    by_cases c : j < 8
    · unfold stF
      rw [if_pos c, if_pos c]
    · rw [show stF T et j = et (j - 8) from by unfold stF; rw [if_neg c], ← this (by omega)]
      rw [show stF T (fun i => zF (stF S es) (stF T et) (stF U eu) hv op (24 + i)) j = zF (stF S es) (stF T et) (stF U eu) hv op (24 + (j - 8)) from by generalize zF (stF S es) (stF T et) (stF U eu) hv op = zz; unfold stF; rw [if_neg c]]
  · intro w' S' es' op' H' B ho hB k1 k2 k3 k4 k5 k6 k7 k8
    have hO : ∀ k, O k → ¬ B k := fun k hk hb => by
      rcases hB k hb with e | e
      · exact (h9 k hk).2 e
      · exact (h8 k e).1 hk
    rw [zGtoF] at k1
    refine ⟨⟨es', et, eu, hv, O, k1, k2, h3.keep ho (fun k hk => hO k (h6 k hk)), h4.keep ho (fun k hk => hO k (h7 k hk)), h5.keep ho hO, h6, h7, fun k hk => ⟨fun c => ?_, k7 k hk⟩, fun k hk => ⟨k6 k (h9 k hk).1, (h9 k hk).2⟩, k3⟩, k5, h.t, h.u, k6 m h.hm, k8⟩
    rcases k4 k hk with e | e
    · exact (h8 k e).1 c
    · have := h.inn k (h9 k c).1
      omega
theorem zG_op {a r : Nat → Value} {op' : Bool} : (tabV 50 (zG a r op)).setIfInBounds 49 (.bool op') = tabV 50 (zG a r op') := by
  rw [tabV_set]
  refine tabV_congr 50 (fun j hj => ?_)
  unfold zG
  by_cases e : j = 49
  · rw [if_pos e, if_neg (by omega), if_pos e]
  · rw [if_neg e]
    by_cases c : j < 16
    · rw [if_pos c, if_pos c]
    · rw [if_neg c, if_neg e, if_neg c, if_neg e]
theorem zG_set {a r : Nat → Value} {i : Nat} (hi : i < 16) {v : Value} : (tabV 50 (zG a r op)).setIfInBounds i v = tabV 50 (zG (putE a i v) r op) := by
  rw [tabV_set]
  refine tabV_congr 50 (fun j hj => ?_)
  unfold zG putE
  by_cases e : j = i
  · rw [if_pos e, if_pos (by omega), if_pos e]
  · rw [if_neg e]
    by_cases c : j < 16
    · rw [if_pos c, if_pos c, if_neg e]
    · rw [if_neg c, if_neg c]
theorem stF_row {es : Nat → Value} {i : Nat} {v : Value} : putE (stF S es) (8 + i) v = stF S (putE es i v) := by
  funext j
  unfold putE stF
  by_cases e : j = 8 + i
  · rw [if_pos e, if_neg (by omega)]
    show v = if j - 8 = i then v else es (j - 8)
    rw [if_pos (by omega)]
  · rw [if_neg e]
    by_cases c : j < 8
    · rw [if_pos c, if_pos c]
    · rw [if_neg c, if_neg c]
      show es (j - 8) = if j - 8 = i then v else es (j - 8)
      rw [if_neg (by omega)]
theorem stF_use {es : Nat → Value} {i : Nat} (hi : i < 8) {o : Option (List KV)} : putE (stF S es) i (.bool o.isSome) = stF (updV S i o) es := by
  funext j
  unfold putE stF updV
  by_cases e : j = i
  · rw [if_pos e, if_pos (by omega), if_pos e]
  · rw [if_neg e]
    by_cases c : j < 8
    · rw [if_pos c, if_pos c, if_neg e]
    · rw [if_neg c, if_neg c]
theorem zG_opc {a r : Nat → Value} (h : Has w m (tabV 50 (zG a r op)) 84) : w.cell? ⟨m, 49, none⟩ = some (.bool op) := by rw [h.cell, tabV_get _ _ _ (by omega)]; rfl
theorem zbegin_open (h : ZAt w m S T U hist true H) : Calls Tryz.prog 105 #[.pointer (some ⟨m, 0, none⟩)] w fun e w' => e = .returned (.int .i64 3) ∧ w = w' := by
  obtain ⟨es, c1, c2, E, c4⟩ := h.look
  clear c1 c2 E
  go_enter Tryz.func105, Tryz.ntmps105
  go_wp2_with fail
  go_ret
  exact ⟨rfl, rfl⟩
theorem zbegin_shut (h : ZAt w m S T U hist false H) : Calls Tryz.prog 105 #[.pointer (some ⟨m, 0, none⟩)] w fun e w' => e = .returned (.int .i64 0) ∧ ZAt w' m S T U hist true H ∧ Only (fun k => k = m) w w' := by
  obtain ⟨es, r, h1, h2, h3, h4, _, _, hK⟩ := h.curL
  have c4 := zG_opc h1
  have f4 := h1.free 49
  have ho : Only (fun k => k = m) w (w.setCell ⟨m, 49, none⟩ (.bool true)) := only1 _ _
  have h1' := h1.setCell 49 (.bool true)
  rw [zG_op] at h1'
  have HP := hide (hK ho (fun k e => .inl e) h1' (h2.keep ho (fun k hk e => (h4 k hk).2 e)) h3 (fun k hk => .inl hk) h.s (fun k hk => hk) (fun k hk => (h4 k hk).1) (fun k hk => by rw [World.size_setCell]; exact h.inn k hk))
  clear hK h1 h2 h3 h4 h1'
  go_enter Tryz.func105, Tryz.ntmps105
  go_wp2_with fail
  go_ret
  exact ⟨rfl, unhide HP, ho⟩
theorem zabort_shut (h : ZAt w m S T U hist false H) : Calls Tryz.prog 107 #[.pointer (some ⟨m, 0, none⟩)] w fun e w' => e = .returned (.int .i64 2) ∧ w = w' := by
  obtain ⟨es, c1, c2, E, c4⟩ := h.look
  clear c1 c2 E
  go_enter Tryz.func107, Tryz.ntmps107
  go_wp2_with fail
  go_ret
  exact ⟨rfl, rfl⟩
theorem zcommit_shut (h : ZAt w m S T U hist false H) : Calls Tryz.prog 106 #[.pointer (some ⟨m, 0, none⟩)] w fun e w' => e = .returned (.int .i64 2) ∧ w = w' := by
  obtain ⟨es, c1, c2, E, c4⟩ := h.look
  clear c1 c2 E
  go_enter Tryz.func106, Tryz.ntmps106
  go_wp2_with fail
  go_ret
  exact ⟨rfl, rfl⟩
theorem zcreate_shut (h : ZAt w m S T U hist false H) : Calls Tryz.prog 108 #[.pointer (some ⟨m, 0, none⟩)] w fun e w' => e = .returned (.tuple #[.int .i64 (-1), .int .i64 2]) ∧ w = w' := by
  obtain ⟨es, c1, c2, E, c4⟩ := h.look
  clear c1 c2 E
  go_enter Tryz.func108, Tryz.ntmps108
  go_wp2_with fail
  go_ret2
  exact ⟨rfl, rfl⟩
theorem zdrop_shut (h : ZAt w m S T U hist false H) (i : Int) : Calls Tryz.prog 109 #[.pointer (some ⟨m, 0, none⟩), .int .i64 i] w fun e w' => e = .returned (.int .i64 2) ∧ w = w' := by
  obtain ⟨es, c1, c2, E, c4⟩ := h.look
  clear c1 c2 E
  go_enter Tryz.func109, Tryz.ntmps109
  go_wp2_with fail
  go_ret
  exact ⟨rfl, rfl⟩
theorem zinsert_shut (h : ZAt w m S T U hist false H) (i : Int) (k v : ByteArray) : Calls Tryz.prog 110 #[.pointer (some ⟨m, 0, none⟩), .int .i64 i, .string k, .string v] w fun e w' => e = .returned (.int .i64 2) ∧ w = w' := by
  obtain ⟨es, c1, c2, E, c4⟩ := h.look
  clear c1 c2 E
  go_enter Tryz.func110, Tryz.ntmps110
  go_wp2_with fail
  go_ret
  exact ⟨rfl, rfl⟩
theorem zdelete_shut (h : ZAt w m S T U hist false H) (i : Int) (k : ByteArray) : Calls Tryz.prog 111 #[.pointer (some ⟨m, 0, none⟩), .int .i64 i, .string k] w fun e w' => e = .returned (.int .i64 2) ∧ w = w' := by
  obtain ⟨es, c1, c2, E, c4⟩ := h.look
  clear c1 c2 E
  go_enter Tryz.func111, Tryz.ntmps111
  go_wp2_with fail
  go_ret
  exact ⟨rfl, rfl⟩
theorem Vok.eSlen (V : Vok S) (i : Nat) : (eS S i).length ≤ 64 := by
  by_cases c : i < 8
  · have := V.len (i : Int)
    unfold Lz Vz at this
    rw [if_pos (by omega)] at this
    exact this
  · unfold eS
    rw [V.out i (by omega)]
    simp
theorem Fre.apart {lo : Nat} {es : Nat → Value} (h : Fre lo es 8) : Apart es := h.ap
theorem Fre.new {lo : Nat} {es : Nat → Value} (h : Fre lo es 8) : ∀ k, EB es k → lo ≤ k := fun k ⟨i, hi, hk⟩ => by
  obtain ⟨g, hg, hl⟩ := h.low i hi
  rw [hg] at hk
  cases hk
  exact hl
theorem zG_seg {a r f : Nat → Value} : tabV 50 (fun j => if 0 ≤ j ∧ j < 0 + 16 then f (j - 0) else zG a r op j) = tabV 50 (zG f r op) := tabV_congr 50 (fun j hj => by
  unfold zG
  by_cases c : j < 16
  · rw [if_pos (by omega), if_pos c]; rfl
  · rw [if_neg (by omega), if_neg c, if_neg c])
set_option maxRecDepth 100000 in
set_option maxHeartbeats 1000000 in
theorem zabort_open (h : ZAt w m S T U hist true H) : Calls Tryz.prog 107 #[.pointer (some ⟨m, 0, none⟩)] w fun e w' => e = .returned (.int .i64 0) ∧ ZAt w' m T T U hist false (Ext H w w') ∧ Only (fun k => k = m) w w' := by
  obtain ⟨es, r, h1, h2, h3, h4, A, E, hK⟩ := h.curL
  have c4 := zG_opc h1
  have C1 := hide (zclone_any A E h.t.eSlen)
  have hml := h1.lt
  go_enter Tryz.func107, Tryz.ntmps107
  go_wp2_with fail
  refine (unhide C1).mono ?_
  rintro e w1 ⟨es', rfl, E', F', o1⟩
  have k1 := h1.keep o1 (fun h => h)
  have one := E'.one
  unfold stV
  go_upto_region 4 with (first | (refine wpList_store_at rfl 81 _ _ rfl m 0 16 (stF T es') rfl rfl 50 _ 84 k1 zs_size (by omega) one ?_))
  have k2 := k1.setRowZ (tabV 50 (fun j => if 0 ≤ j ∧ j < 0 + 16 then stF T es' (j - 0) else zG (stF S es) r true j))
  have o2 : Only (fun k => k = m) w1 (w1.setRow m (tabV 50 (fun j => if 0 ≤ j ∧ j < 0 + 16 then stF T es' (j - 0) else zG (stF S es) r true j))) := setRow_only
  generalize w1.setRow m (tabV 50 (fun j => if 0 ≤ j ∧ j < 0 + 16 then stF T es' (j - 0) else zG (stF S es) r true j)) = w2 at *
  rw [zG_seg] at k2
  have c5 := zG_opc k2
  have f5 := k2.free 49
  have k3 := k2.setCell 49 (.bool false)
  rw [zG_op] at k3
  have o3 : Only (fun k => k = m) w2 (w2.setCell ⟨m, 49, none⟩ (.bool false)) := only1 _ _
  have oA : Only (fun k => k = m) w (w2.setCell ⟨m, 49, none⟩ (.bool false)) := ((o1.mono (fun _ _ h => h.elim)).trans o2 (fun _ _ h => h)).trans o3 (fun _ _ h => h)
  have new := F'.new
  have ne : ∀ k, EB es' k → k ≠ m := fun k hk e => by have := new k hk; omega
  have E3 := (E'.keep o2 ne).keep o3 ne
  have HP := hide (hK oA (fun k e => .inl e) k3 E3 F'.apart (fun k hk => .inr (new k hk)) h.t (H' := Ext H w (w2.setCell ⟨m, 49, none⟩ (.bool false))) (fun k hk => .inl hk) (fun k hk => .inr ⟨new k hk, E3.lt k hk⟩) (Ext.in h.inn oA.size))
  have HO := hide oA
  clear hK h1 h2 h3 h4 k1 k2 k3 o1 o2 o3 E3 E' oA A E
  go_wp2_with fail
  go_ret
  exact ⟨rfl, unhide HP, unhide HO⟩
theorem zG_use {es r : Nat → Value} {i : Nat} (hi : i < 8) (h : Has w m (tabV 50 (zG (stF S es) r op)) 84) : w.cell? ⟨m, i, none⟩ = some (.bool (S i).isSome) := by
  rw [h.cell, tabV_get _ _ _ (by omega)]
  unfold zG stF
  rw [if_pos (by omega), if_pos hi]
theorem zG_row {es r : Nat → Value} {i : Nat} (hi : i < 8) (h : Has w m (tabV 50 (zG (stF S es) r op)) 84) : w.cell? ⟨m, 8 + i, none⟩ = some (es i) := by
  rw [h.cell, tabV_get _ _ _ (by omega)]
  unfold zG stF
  rw [if_pos (by omega), if_neg (by omega), Nat.add_sub_cancel_left]
theorem eS_upd {i : Nat} {o : Option (List KV)} (j : Nat) : eS (updV S i o) j = if j = i then o.getD [] else eS S j := by
  unfold eS updV
  by_cases c : j = i
  · rw [if_pos c, if_pos c]
  · rw [if_neg c, if_neg c]
theorem Vok.new (V : Vok S) {i : Nat} (hi : i < 8) (h0 : S i = none) : Vok (updV S i (some [])) := by
  refine V.upd hi (fun l hl => by cases hl; exact List.Pairwise.nil) ?_
  obtain ⟨A, B, f1, _, _, f2⟩ := flat_upd S hi
  have := V.ct
  rw [← flat_len, f1, h0] at this
  rw [f2]
  exact this
theorem Vok.gone (V : Vok S) {i : Nat} (hi : i < 8) : Vok (updV S i none) := by
  refine V.upd hi (fun l hl => by cases hl) ?_
  obtain ⟨A, B, f1, _, _, f2⟩ := flat_upd S hi
  have := V.ct
  rw [← flat_len, f1] at this
  rw [f2]
  simp only [List.length_append, Option.getD_none, tagI, List.map_nil, List.length_nil] at this ⊢
  omega
theorem lowS_cases : (lowS S = none ∧ ∀ j, j < 8 → S j ≠ none) ∨ ∃ i, i < 8 ∧ lowS S = some i ∧ S i = none ∧ ∀ j, j < i → S j ≠ none := by
  by_cases c : ∃ n, n < 8 ∧ S n = none
  · have : ∀ n, n < 8 → S n = none → ∃ i, i < 8 ∧ S i = none ∧ ∀ j, j < i → S j ≠ none := by
      intro n
      induction n using Nat.strongRecOn with
      | _ n ih =>
        intro hn h0
        by_cases d : ∃ j, j < n ∧ S j = none
        · obtain ⟨j, hj, hj0⟩ := d
          exact ih j hj (by omega) hj0
        · exact ⟨n, hn, h0, fun j hj e => d ⟨j, hj, e⟩⟩
    obtain ⟨n, hn, h0⟩ := c
    obtain ⟨i, hi, h1, h2⟩ := this n hn h0
    exact .inr ⟨i, hi, lowS_some hi h1 h2, h1, h2⟩
  · have hj : ∀ j, j < 8 → S j ≠ none := fun j hj e => c ⟨j, hj, e⟩
    exact .inl ⟨lowS_none hj, hj⟩
set_option maxRecDepth 100000 in
set_option maxHeartbeats 1000000 in
theorem zcreate_open (h : ZAt w m S T U hist true H) : Calls Tryz.prog 108 #[.pointer (some ⟨m, 0, none⟩)] w fun e w' => e = .returned (.tuple #[.int .i64 (newS S).2.1, .int .i64 (newS S).2.2]) ∧ ZAt w' m (newS S).1 T U hist true H ∧ Only (fun k => k = m) w w' := by
  obtain ⟨es, r, h1, h2, h3, h4, _, _, hK⟩ := h.curL
  have c4 := zG_opc h1
  have HH := hide h
  rcases lowS_cases (S := S) with ⟨hl, hall⟩ | ⟨i, hi, hl, h0, hbl⟩
  · have hn : newS S = (S, -1, 6) := by unfold newS; rw [hl]
    rw [hn]
    have HA := hide hall
    clear hall hl hn hK
    go_enter Tryz.func108, Tryz.ntmps108
    go_upto_region 4 with fail
    go_loopw [4] (fun jv wr => ∃ j : Nat, jv = .int .i64 j ∧ j ≤ 8 ∧ wr = w) (fun jv _ => 8 - (intOf jv).toNat)
    case atStart => exact ⟨0, rfl, by omega, rfl⟩
    case round =>
      obtain ⟨j, rfl, hj, rfl⟩ := hrel
      by_cases h8 : j < 8
      · have a1 : decide ((j : Int) < 8) = true := decide_eq_true (by omega)
        have a1p : (j : Int) < 8 := by omega
        have d := zG_use h8 h1
        have hs : (S j).isSome = true := by
          cases e : S j with
          | none => exact absurd e (unhide HA j h8)
          | some l => rfl
        rw [hs] at d
        clear hs
        go_wp2_with fail
        go_roundw
        case rel => exact ⟨j + 1, by go_num, by omega, by first | rfl | trivial⟩
        case measure => simp [intOf]; omega
      · have a1 : decide ((j : Int) < 8) = false := decide_eq_false (by omega)
        have a1p : ¬ ((j : Int) < 8) := by omega
        go_wp2_with fail
        go_ret2
        exact ⟨rfl, unhide HH, Only.refl _ _⟩
  · have hn : newS S = (updV S i (some []), (i : Int), 0) := by unfold newS; rw [hl]
    rw [hn]
    have HA := hide hbl
    have ho : Only (fun k => k = m) w (w.setCell ⟨m, i, none⟩ (.bool true)) := only1 _ _
    have k1 := h1.setCell i (.bool true)
    rw [zG_set (by omega), show (Value.bool true) = .bool (some ([] : List KV)).isSome from rfl, stF_use hi] at k1
    have E1 : ZE (w.setCell ⟨m, i, none⟩ (.bool true)) es (updV S i (some [])) := ⟨fun j hj => by
      have := (h2.keep ho (fun k hk e => (h4 k hk).2 e)).own j hj
      rw [eS_upd]
      by_cases c : j = i
      · rw [if_pos c]
        unfold eS at this
        rw [c, h0] at this
        rw [c]
        exact this
      · rw [if_neg c]; exact this⟩
    have HP := hide (hK ho (fun k e => .inl e) k1 E1 h3 (fun k hk => .inl hk) (h.s.new hi h0) (fun k hk => hk) (fun k hk => (h4 k hk).1) (fun k hk => by rw [World.size_setCell]; exact h.inn k hk))
    have f1 := h1.free i
    clear hK E1 k1 hbl hl hn
    go_enter Tryz.func108, Tryz.ntmps108
    go_upto_region 4 with fail
    go_loopw [4] (fun jv wr => ∃ j : Nat, jv = .int .i64 j ∧ j ≤ i ∧ wr = w) (fun jv _ => 8 - (intOf jv).toNat)
    case atStart => exact ⟨0, rfl, by omega, rfl⟩
    case round =>
      obtain ⟨j, rfl, hj, rfl⟩ := hrel
      have h8 : j < 8 := by omega
      have a1 : decide ((j : Int) < 8) = true := decide_eq_true (by omega)
      have a1p : (j : Int) < 8 := by omega
      have d := zG_use h8 h1
      by_cases hji : j = i
      · subst hji
        rw [h0] at d
        clear h0
        go_wp2_with fail
        go_ret2
        exact ⟨rfl, unhide HP, ho⟩
      · have hs : (S j).isSome = true := by
          cases e : S j with
          | none => exact absurd e (unhide HA j (by omega))
          | some l => rfl
        rw [hs] at d
        clear hs
        go_wp2_with fail
        go_roundw
        case rel => exact ⟨j + 1, by go_num, by omega, by first | rfl | trivial⟩
        case measure => simp [intOf]; omega
set_option maxRecDepth 100000 in
set_option maxHeartbeats 1000000 in
theorem zdrop_open (h : ZAt w m S T U hist true H) (i : Int) : Calls Tryz.prog 109 #[.pointer (some ⟨m, 0, none⟩), .int .i64 i] w fun e w' => e = .returned (.int .i64 (dropS S i).2) ∧ ZAt w' m (dropS S i).1 T U hist true H ∧ Only (fun k => k = m) w w' := by
  obtain ⟨es, r, h1, h2, h3, h4, _, _, hK⟩ := h.curL
  have c4 := zG_opc h1
  have C1 := zused_any h i
  cases hz : Vz S i with
  | none =>
    have hd : dropS S i = (S, 7) := by unfold dropS; rw [hz]
    rw [hd]
    rw [hz] at C1
    have C1 := hide C1
    have HH := hide h
    clear hK h1 h2 h3 h4 hz hd h
    go_enter Tryz.func109, Tryz.ntmps109
    go_wp2_with fail
    refine (unhide C1).mono ?_
    rintro e w1 ⟨rfl, rfl⟩
    go_wp2_with fail
    go_ret
    exact ⟨rfl, unhide HH, Only.refl _ _⟩
  | some l =>
    obtain ⟨n, rfl, hn, hS, hl⟩ := Vz_eS hz
    have hd : dropS S (n : Int) = (updV S n none, 0) := by unfold dropS; rw [hz]; rfl
    rw [hd]
    rw [hz] at C1
    have C1 := hide C1
    have ho : Only (fun k => k = m) w ((w.setCell ⟨m, n, none⟩ (.bool false)).setCell ⟨m, 8 + n, none⟩ (.slice none 0 0)) := (only1 _ _).trans (only1 _ _) (fun _ _ h => h)
    have k1 := h1.setCell n (.bool false)
    rw [zG_set (by omega), show (Value.bool false) = .bool (none : Option (List KV)).isSome from rfl, stF_use hn] at k1
    have k2 := k1.setCell (8 + n) (.slice none 0 0)
    rw [zG_set (by omega), stF_row] at k2
    have E0 := h2.keep ho (fun k hk e => (h4 k hk).2 e)
    have E1 : ZE ((w.setCell ⟨m, n, none⟩ (.bool false)).setCell ⟨m, 8 + n, none⟩ (.slice none 0 0)) (putE es n (.slice none 0 0)) (updV S n none) := ⟨fun j hj => by
      rw [eS_upd]
      unfold putE
      by_cases c : j = n
      · rw [if_pos c, if_pos c]; exact OwnK.nil _
      · rw [if_neg c, if_neg c]; exact E0.own j hj⟩
    have sub : ∀ k, EB (putE es n (.slice none 0 0)) k → EB es k := fun k ⟨j, hj, hk⟩ => by
      unfold putE at hk
      by_cases c : j = n
      · rw [if_pos c] at hk; simp [Value.ownBlock] at hk
      · rw [if_neg c] at hk; exact ⟨j, hj, hk⟩
    have ap : Apart (putE es n (.slice none 0 0)) := fun a b g ha hb hab e1 e2 => by
      unfold putE at e1 e2
      by_cases c1 : a = n
      · rw [if_pos c1] at e1; simp [Value.ownBlock] at e1
      · rw [if_neg c1] at e1
        by_cases c2 : b = n
        · rw [if_pos c2] at e2; simp [Value.ownBlock] at e2
        · rw [if_neg c2] at e2
          exact h3 a b g ha hb hab e1 e2
    have HP := hide (hK ho (fun k e => .inl e) k2 E1 ap (fun k hk => .inl (sub k hk)) (h.s.gone hn) (fun k hk => hk) (fun k hk => (h4 k (sub k hk)).1) (fun k hk => by rw [World.size_setCell, World.size_setCell]; exact h.inn k hk))
    have d0 := zG_use hn h1
    have d1 := zG_row hn h1
    have f0 := h1.free n
    have f1 := h1.free (8 + n)
    have nI : (n : Int) < 8 := by omega
    have HO := hide ho
    clear hK E1 E0 k1 k2 ho sub ap hz hd h1 h2 h3 h4
    go_enter Tryz.func109, Tryz.ntmps109
    go_wp2_with fail
    refine (unhide C1).mono ?_
    rintro e w1 ⟨rfl, rfl⟩
    go_wp2_with fail
    go_ret
    exact ⟨rfl, unhide HP, unhide HO⟩
end
end Go.Proofs.Qxb6500410aGreat
