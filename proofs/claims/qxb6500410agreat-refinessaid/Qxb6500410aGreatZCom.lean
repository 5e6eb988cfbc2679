/-
  OWN WORK. THE FOREST MODEL: Commit, Mark, Clone, Crashed, New.
-/
import Derived.Test.Qxb6500410aGreatZIns
import Derived.Laws.Append
namespace Go.Proofs.Qxb6500410aGreat
open Go.RowKit Go.PlainAid
set_option linter.unusedSimpArgs false
set_option linter.unusedVariables false

section
variable {w w' : World} {m : Nat} {S T U : Vu} {hist : Option Vu} {op : Bool} {H : Nat → Prop} {a b c f : Nat → Value} {hv : Value}
theorem zF_segCur : tabV 50 (fun j => if 0 ≤ j ∧ j < 0 + 16 then f (j - 0) else zF a b c hv op j) = tabV 50 (zF f b c hv op) := tabV_congr 50 (fun j hj => by
  unfold zF
  by_cases h : j < 16
  · rw [if_pos (by omega), if_pos h]; rfl
  · rw [if_neg (by omega), if_neg h, if_neg h])
theorem zF_segCom : tabV 50 (fun j => if 16 ≤ j ∧ j < 16 + 16 then f (j - 16) else zF a b c hv op j) = tabV 50 (zF a f c hv op) := tabV_congr 50 (fun j hj => by
  unfold zF
  by_cases h : j < 16
  · rw [if_neg (by omega), if_pos h, if_pos h]
  · rw [if_neg h, if_neg h]
    by_cases h2 : j < 32
    · rw [if_pos (by omega), if_pos h2]
    · rw [if_neg (by omega), if_neg h2, if_neg h2])
theorem zF_segBase : tabV 50 (fun j => if 32 ≤ j ∧ j < 32 + 16 then f (j - 32) else zF a b c hv op j) = tabV 50 (zF a b f hv op) := tabV_congr 50 (fun j hj => by
  unfold zF
  by_cases h : j < 16
  · rw [if_neg (by omega), if_pos h, if_pos h]
  · rw [if_neg h, if_neg h]
    by_cases h2 : j < 32
    · rw [if_neg (by omega), if_pos h2, if_pos h2]
    · rw [if_neg h2, if_neg h2]
      by_cases h3 : j < 48
      · rw [if_pos (by omega), if_pos h3]
      · rw [if_neg (by omega), if_neg h3, if_neg h3])
theorem zF_setHist {v : Value} : (tabV 50 (zF a b c hv op)).setIfInBounds 48 v = tabV 50 (zF a b c v op) := by
  rw [tabV_set]
  refine tabV_congr 50 (fun j hj => ?_)
  by_cases h : j = 48
  · subst h; rw [if_pos rfl]; unfold zF; simp
  · rw [if_neg h]; unfold zF; simp [h]
theorem zF_setOp {o : Bool} : (tabV 50 (zF a b c hv op)).setIfInBounds 49 (.bool o) = tabV 50 (zF a b c hv o) := by
  rw [tabV_set]
  refine tabV_congr 50 (fun j hj => ?_)
  by_cases h : j = 49
  · subst h; rw [if_pos rfl]; unfold zF; simp
  · rw [if_neg h]
    unfold zF
    by_cases h1 : j < 16
    · simp [h1]
    · by_cases h2 : j < 32
      · simp [h1, h2]
      · by_cases h3 : j < 48
        · simp [h1, h2, h3]
        · have : j = 48 := by omega
          simp [this]
theorem zF_op (h : Has w m (tabV 50 (zF a b c hv op)) 84) : w.cell? ⟨m, 49, none⟩ = some (.bool op) := by rw [h.cell, tabV_get _ _ _ (by omega)]; rfl
theorem zF_hv (h : Has w m (tabV 50 (zF a b c hv op)) 84) : w.cell? ⟨m, 48, none⟩ = some hv := by rw [h.cell, tabV_get _ _ _ (by omega)]; rfl
theorem zfA0 {es : Nat → Value} (h : Has w m (tabV 50 (zF (stF S es) b c hv op)) 84) : StA w m 0 S es := fun j hj => by rw [h.cell, tabV_get _ _ _ (by omega), Nat.zero_add, zF_cur hj]
theorem zfA16 {es : Nat → Value} (h : Has w m (tabV 50 (zF a (stF S es) c hv op)) 84) : StA w m 16 S es := fun j hj => by rw [h.cell, tabV_get _ _ _ (by omega), zF_com hj]
theorem zfA32 {es : Nat → Value} (h : Has w m (tabV 50 (zF a b (stF S es) hv op)) 84) : StA w m 32 S es := fun j hj => by rw [h.cell, tabV_get _ _ _ (by omega), zF_base hj]
theorem HisA.shape {O : Nat → Prop} (h : HisA w hv O hist) : ∃ x n cap, hv = .slice x n cap ∧ n = hist.toList.length := by
  cases hist with
  | none => exact ⟨none, 0, 0, h, rfl⟩
  | some X =>
    obtain ⟨ex, h1, _⟩ := h
    obtain ⟨x, cap, e⟩ := ownsRow_shape h1
    exact ⟨x, 1, cap, e, rfl⟩
theorem HisA.mono {O O' : Nat → Prop} (h : HisA w hv O hist) (hO : ∀ k, O k → O' k) : HisA w hv O' hist := by
  cases hist with
  | none => exact h
  | some X =>
    obtain ⟨ex, h1, h2, h3, h4, h5⟩ := h
    exact ⟨ex, h1, h2, fun k hk => hO k (h3 k hk), fun k hk => hO k (h4 k hk), h5⟩
theorem ZAt.nem (h : ZAt w m S T U hist op H) : m < w.heap.size := h.inn m h.hm
set_option maxRecDepth 100000 in
set_option maxHeartbeats 1000000 in
theorem zmark_any (h : ZAt w m S T U hist op H) : Calls Tryz.prog 19 #[.pointer (some ⟨m, 0, none⟩)] w fun e w' => e = .returned (.tuple #[]) ∧ ZAt w' m S T T none op (Ext H w w') ∧ Only (fun k => k = m) w w' := by
  obtain ⟨es, et, eu, hv, O, h1, h2, h3, h4, h5, h6, h7, h8, h9, h10⟩ := h.ex
  have C1 := hide (zclone_any (zfA16 h1) h3 h.t.eSlen)
  have hml := h1.lt
  go_enter Tryz.func19, Tryz.ntmps19
  go_wp2_with fail
  refine (unhide C1).mono ?_
  rintro e w1 ⟨es', rfl, E', F', o1⟩
  have k1 := h1.keep o1 (fun h => h)
  have one := E'.one
  unfold stV
  go_upto_region 1 with (first | (refine wpList_store_at rfl 81 _ _ rfl m 32 16 (stF T es') rfl rfl 50 _ 84 k1 zs_size (by omega) one ?_))
  have k2 := k1.setRowZ (tabV 50 (fun j => if 32 ≤ j ∧ j < 32 + 16 then stF T es' (j - 32) else zF (stF S es) (stF T et) (stF U eu) hv op j))
  have o2 : Only (fun k => k = m) w1 (w1.setRow m (tabV 50 (fun j => if 32 ≤ j ∧ j < 32 + 16 then stF T es' (j - 32) else zF (stF S es) (stF T et) (stF U eu) hv op j))) := setRow_only
  generalize w1.setRow m (tabV 50 (fun j => if 32 ≤ j ∧ j < 32 + 16 then stF T es' (j - 32) else zF (stF S es) (stF T et) (stF U eu) hv op j)) = w2 at *
  rw [zF_segBase] at k2
  have c5 := zF_hv k2
  obtain ⟨x, n, cap, ehv, _⟩ := h5.shape
  rw [ehv] at c5
  have f5 := k2.free 48
  have k3 := k2.setCell 48 (.slice none 0 0)
  rw [zF_setHist] at k3
  have o3 : Only (fun k => k = m) w2 (w2.setCell ⟨m, 48, none⟩ (.slice none 0 0)) := only1 _ _
  have oA : Only (fun k => k = m) w (w2.setCell ⟨m, 48, none⟩ (.slice none 0 0)) := ((o1.mono (fun _ _ h => h.elim)).trans o2 (fun _ _ h => h)).trans o3 (fun _ _ h => h)
  have new := F'.new
  have ne : ∀ k, EB es' k → k ≠ m := fun k hk e => by have := new k hk; omega
  have E3 := (E'.keep o2 ne).keep o3 ne
  have nes : ∀ k, EB es k → k ≠ m := fun k ⟨i, hi, hk⟩ e => ownsRow_ne (h2.own i hi) h1 (by decide) k hk e
  have net : ∀ k, EB et k → k ≠ m := fun k hk => (h9 k (h6 k hk)).2
  have lt3 := E3.lt
  have HP := hide (show ZAt (w2.setCell ⟨m, 48, none⟩ (.slice none 0 0)) m S T T none op (Ext H w (w2.setCell ⟨m, 48, none⟩ (.slice none 0 0))) from
    ⟨⟨es, et, es', .slice none 0 0, fun k => EB et k ∨ EB es' k, k3, h2.keep oA nes, h3.keep oA net, E3, rfl, fun k hk => .inl hk, fun k hk => .inr hk, fun k hk => ⟨fun c => by
      rcases c with c | c
      · exact (h8 k hk).1 (h6 k c)
      · have := new k c; have := h.inn k (h8 k hk).2; omega, .inl (h8 k hk).2⟩, fun k hk => by
      rcases hk with c | c
      · exact ⟨.inl (h9 k (h6 k c)).1, net k c⟩
      · exact ⟨.inr ⟨new k c, lt3 k c⟩, ne k c⟩, h10⟩, h.s, h.t, h.t, .inl h.hm, Ext.in h.inn oA.size⟩)
  have HO := hide oA
  clear h1 h2 h3 h4 h5 h6 h7 h8 h9 h10 k1 k2 k3 o1 o2 o3 E3 E' oA lt3 ne nes net new
  go_wp2_with fail
  go_end0
  exact ⟨rfl, unhide HP, unhide HO⟩
def litS (S : Vu) (es : Nat → Value) : List Value := [.bool (S 0).isSome, .bool (S 1).isSome, .bool (S 2).isSome, .bool (S 3).isSome, .bool (S 4).isSome, .bool (S 5).isSome, .bool (S 6).isSome, .bool (S 7).isSome, es 0, es 1, es 2, es 3, es 4, es 5, es 6, es 7]
theorem litS_eq (S : Vu) (es : Nat → Value) : tabV 16 (stF S es) = (litS S es).toArray := rfl
theorem zhist_own {w5 : World} {g cap : Nat} {e2 : Nat → Value} (h1 : 1 ≤ cap) (h2 : cap ≤ maxLen) (h : Has w5 g (#[.bool (S 0).isSome, .bool (S 1).isSome, .bool (S 2).isSome, .bool (S 3).isSome, .bool (S 4).isSome, .bool (S 5).isSome, .bool (S 6).isSome, .bool (S 7).isSome, e2 0, e2 1, e2 2, e2 3, e2 4, e2 5, e2 6, e2 7] ++ Builtin.zeroCells #[.bool false, .bool false, .bool false, .bool false, .bool false, .bool false, .bool false, .bool false, .slice none 0 0, .slice none 0 0, .slice none 0 0, .slice none 0 0, .slice none 0 0, .slice none 0 0, .slice none 0 0, .slice none 0 0] (cap - 1)) 81) : w5.ownsRow 0 81 16 (.slice (some ⟨g, 0, none⟩) 1 cap) 1 (tabV 16 (stF S e2)).toList := by
  refine ⟨by simp [tabV_size], .inr ⟨g, cap, _, rfl, Nat.zero_le _, h, h1, h2, ?_, ?_⟩⟩
  · rw [Array.size_append, size_zeroCells]
    show 16 + (cap - 1) * 16 = cap * 16
    omega
  · rw [Array.toList_append, List.take_append_of_le_length (by show 16 ≤ 16; omega)]
    rfl
set_option maxRecDepth 100000 in
set_option maxHeartbeats 4000000 in
theorem zcommit_open (h : ZAt w m S T U none true H) : Calls Tryz.prog 106 #[.pointer (some ⟨m, 0, none⟩)] w fun e w' => e = .returned (.int .i64 0) ∧ ZAt w' m S S U (some S) false (Ext H w w') ∧ Only (fun k => k = m) w w' := by
  obtain ⟨es, et, eu, hv, O, h1, h2, h3, h4, h5, h6, h7, h8, h9, h10⟩ := h.ex
  have ehv : hv = .slice none 0 0 := h5
  subst ehv
  have c4 := zF_op h1
  have C1 := hide (zclone_any (zfA0 h1) h2 h.s.eSlen)
  have hml := h1.lt
  have nes : ∀ k, EB es k → k ≠ m := fun k ⟨i, hi, hk⟩ e => ownsRow_ne (h2.own i hi) h1 (by decide) k hk e
  go_enter Tryz.func106, Tryz.ntmps106
  go_wp2_with fail
  refine (unhide C1).mono ?_
  rintro e w1 ⟨e1, rfl, E1, F1, o1⟩
  have k1 := h1.keep o1 (fun h => h)
  have one := E1.one
  unfold stV
  go_upto_region 4 with (first | (refine wpList_store_at rfl 81 _ _ rfl m 16 16 (stF S e1) rfl rfl 50 _ 84 k1 zs_size (by omega) one ?_))
  have k2 := k1.setRowZ (tabV 50 (fun j => if 16 ≤ j ∧ j < 16 + 16 then stF S e1 (j - 16) else zF (stF S es) (stF T et) (stF U eu) (.slice none 0 0) true j))
  have o2 : Only (fun k => k = m) w1 (w1.setRow m (tabV 50 (fun j => if 16 ≤ j ∧ j < 16 + 16 then stF S e1 (j - 16) else zF (stF S es) (stF T et) (stF U eu) (.slice none 0 0) true j))) := setRow_only
  generalize w1.setRow m (tabV 50 (fun j => if 16 ≤ j ∧ j < 16 + 16 then stF S e1 (j - 16) else zF (stF S es) (stF T et) (stF U eu) (.slice none 0 0) true j)) = w2 at *
  rw [zF_segCom] at k2
  have A2 := (h2.keep o1 (fun _ _ h => h)).keep o2 nes
  have C2 : Calls Tryz.prog 50 #[.pointer (some ⟨m, 0, none⟩)] w2.drew fun e w3 => ∃ (e2 : Nat → Value), e = .returned (.agg #[.bool (S 0).isSome, .bool (S 1).isSome, .bool (S 2).isSome, .bool (S 3).isSome, .bool (S 4).isSome, .bool (S 5).isSome, .bool (S 6).isSome, .bool (S 7).isSome, e2 0, e2 1, e2 2, e2 3, e2 4, e2 5, e2 6, e2 7]) ∧ w3.cell? ⟨m, 48, none⟩ = some (.slice none 0 0) ∧ w3.frozen? ⟨m, 48, none⟩ = false ∧ m < w3.heap.size ∧
      Hid (ZE w3 e2 S ∧ Fre w2.heap.size e2 8 ∧ Only (fun _ => False) w2 w3 ∧ Has w3 m (tabV 50 (zF (stF S es) (stF S e1) (stF U eu) (.slice none 0 0) true)) 84) := by
    refine (zclone_any (zfA0 k2.drew) (A2.keep (Only.refl (fun _ => False) _).drew (fun _ _ h => h)) h.s.eSlen).mono ?_
    rintro e w3 ⟨e2, rfl, E2, F2, o3⟩
    have k3 := k2.drew.keep o3 (fun h => h)
    exact ⟨e2, rfl, zF_hv k3, k3.free 48, k3.lt, hide ⟨E2, F2, ((Only.refl (fun _ => False) w2).drew).trans o3 (fun _ _ h => h), k3⟩⟩
  have C2 := hide C2
  have d3 := zF_hv k2
  have f3 := k2.free 48
  have HK2 := hide k2
  have ZZ := hide (And.intro E1 (And.intro o1 o2))
  clear k2 k1 C1 c4 E1 o1 o2 A2 one
  go_region_with (first | (go_at_call 50; refine (unhide C2).mono ?_; rintro e w3 ⟨e2, rfl, z3, f4, ml3, HF⟩))
  all_goals
    have hc1 : 1 ≤ (Question.appendCap 1 0 81).cut (w3.tape w3.drawn (Question.appendCap 1 0 81)) := grownCap_ge w3 1 0 81
    have hc2 : (Question.appendCap 1 0 81).cut (w3.tape w3.drawn (Question.appendCap 1 0 81)) ≤ maxLen := grownCap_le_maxLen w3 1 0 81 (by unfold maxLen; omega)
    generalize (Question.appendCap 1 0 81).cut (w3.tape w3.drawn (Question.appendCap 1 0 81)) = cap at *
    obtain ⟨E1, o1, o2⟩ := unhide ZZ
    obtain ⟨E2, F2, o3, k3⟩ := unhide HF
    have k4 := k3.setCell 48 (.slice (some ⟨w3.heap.size + 1, 0, none⟩) 1 cap)
    rw [zF_setHist] at k4
    have k5 := ((k4.alloc (.cells #[.bool (S 0).isSome, .bool (S 1).isSome, .bool (S 2).isSome, .bool (S 3).isSome, .bool (S 4).isSome, .bool (S 5).isSome, .bool (S 6).isSome, .bool (S 7).isSome, e2 0, e2 1, e2 2, e2 3, e2 4, e2 5, e2 6, e2 7] 81)).alloc (.cells (#[.bool (S 0).isSome, .bool (S 1).isSome, .bool (S 2).isSome, .bool (S 3).isSome, .bool (S 4).isSome, .bool (S 5).isSome, .bool (S 6).isSome, .bool (S 7).isSome, e2 0, e2 1, e2 2, e2 3, e2 4, e2 5, e2 6, e2 7] ++ Builtin.zeroCells #[.bool false, .bool false, .bool false, .bool false, .bool false, .bool false, .bool false, .bool false, .slice none 0 0, .slice none 0 0, .slice none 0 0, .slice none 0 0, .slice none 0 0, .slice none 0 0, .slice none 0 0, .slice none 0 0] (cap - 1)) 81)).drew
    have hZ : Has (((w3.setCell ⟨m, 48, none⟩ (.slice (some ⟨w3.heap.size + 1, 0, none⟩) 1 cap)).alloc (.cells #[.bool (S 0).isSome, .bool (S 1).isSome, .bool (S 2).isSome, .bool (S 3).isSome, .bool (S 4).isSome, .bool (S 5).isSome, .bool (S 6).isSome, .bool (S 7).isSome, e2 0, e2 1, e2 2, e2 3, e2 4, e2 5, e2 6, e2 7] 81)).alloc (.cells (#[.bool (S 0).isSome, .bool (S 1).isSome, .bool (S 2).isSome, .bool (S 3).isSome, .bool (S 4).isSome, .bool (S 5).isSome, .bool (S 6).isSome, .bool (S 7).isSome, e2 0, e2 1, e2 2, e2 3, e2 4, e2 5, e2 6, e2 7] ++ Builtin.zeroCells #[.bool false, .bool false, .bool false, .bool false, .bool false, .bool false, .bool false, .bool false, .slice none 0 0, .slice none 0 0, .slice none 0 0, .slice none 0 0, .slice none 0 0, .slice none 0 0, .slice none 0 0, .slice none 0 0] (cap - 1)) 81)).drew (w3.heap.size + 1) (#[.bool (S 0).isSome, .bool (S 1).isSome, .bool (S 2).isSome, .bool (S 3).isSome, .bool (S 4).isSome, .bool (S 5).isSome, .bool (S 6).isSome, .bool (S 7).isSome, e2 0, e2 1, e2 2, e2 3, e2 4, e2 5, e2 6, e2 7] ++ Builtin.zeroCells #[.bool false, .bool false, .bool false, .bool false, .bool false, .bool false, .bool false, .bool false, .slice none 0 0, .slice none 0 0, .slice none 0 0, .slice none 0 0, .slice none 0 0, .slice none 0 0, .slice none 0 0, .slice none 0 0] (cap - 1)) 81 := (Has.new' _ _ _ _ (by simp)).drew
    have o4 : Only (fun k => k = m) w3 (((w3.setCell ⟨m, 48, none⟩ (.slice (some ⟨w3.heap.size + 1, 0, none⟩) 1 cap)).alloc (.cells #[.bool (S 0).isSome, .bool (S 1).isSome, .bool (S 2).isSome, .bool (S 3).isSome, .bool (S 4).isSome, .bool (S 5).isSome, .bool (S 6).isSome, .bool (S 7).isSome, e2 0, e2 1, e2 2, e2 3, e2 4, e2 5, e2 6, e2 7] 81)).alloc (.cells (#[.bool (S 0).isSome, .bool (S 1).isSome, .bool (S 2).isSome, .bool (S 3).isSome, .bool (S 4).isSome, .bool (S 5).isSome, .bool (S 6).isSome, .bool (S 7).isSome, e2 0, e2 1, e2 2, e2 3, e2 4, e2 5, e2 6, e2 7] ++ Builtin.zeroCells #[.bool false, .bool false, .bool false, .bool false, .bool false, .bool false, .bool false, .bool false, .slice none 0 0, .slice none 0 0, .slice none 0 0, .slice none 0 0, .slice none 0 0, .slice none 0 0, .slice none 0 0, .slice none 0 0] (cap - 1)) 81)).drew := ((((only1 _ _).alloc _).alloc _).drew)
    have hown := zhist_own (S := S) hc1 hc2 hZ
    generalize (((w3.setCell ⟨m, 48, none⟩ (.slice (some ⟨w3.heap.size + 1, 0, none⟩) 1 cap)).alloc (.cells #[.bool (S 0).isSome, .bool (S 1).isSome, .bool (S 2).isSome, .bool (S 3).isSome, .bool (S 4).isSome, .bool (S 5).isSome, .bool (S 6).isSome, .bool (S 7).isSome, e2 0, e2 1, e2 2, e2 3, e2 4, e2 5, e2 6, e2 7] 81)).alloc (.cells (#[.bool (S 0).isSome, .bool (S 1).isSome, .bool (S 2).isSome, .bool (S 3).isSome, .bool (S 4).isSome, .bool (S 5).isSome, .bool (S 6).isSome, .bool (S 7).isSome, e2 0, e2 1, e2 2, e2 3, e2 4, e2 5, e2 6, e2 7] ++ Builtin.zeroCells #[.bool false, .bool false, .bool false, .bool false, .bool false, .bool false, .bool false, .bool false, .slice none 0 0, .slice none 0 0, .slice none 0 0, .slice none 0 0, .slice none 0 0, .slice none 0 0, .slice none 0 0, .slice none 0 0] (cap - 1)) 81)).drew = w4 at *
    have c5 := zF_op k5
    have f5 := k5.free 49
    have k6 := k5.setCell 49 (.bool false)
    rw [zF_setOp] at k6
    have o5 : Only (fun k => k = m) w4 (w4.setCell ⟨m, 49, none⟩ (.bool false)) := only1 _ _
    have HP := hide (show ZAt (w4.setCell ⟨m, 49, none⟩ (.bool false)) m S S U (some S) false (Ext H w (w4.setCell ⟨m, 49, none⟩ (.bool false))) ∧ Only (fun k => k = m) w (w4.setCell ⟨m, 49, none⟩ (.bool false)) by
      have s1 := o1.size
      have s2 := o2.size
      have s3 := o3.size
      have o45 := o4.trans o5 (fun _ _ h => h)
      have o35 := (o3.mono (T := fun k => k = m) (fun _ _ h => h.elim)).trans o45 (fun _ _ h => h)
      have oA : Only (fun k => k = m) w (w4.setCell ⟨m, 49, none⟩ (.bool false)) := ((o1.mono (fun _ _ h => h.elim)).trans o2 (fun _ _ h => h)).trans o35 (fun _ _ h => h)
      have new1 := F1.new
      have new2 := F2.new
      have ne1 : ∀ k, EB e1 k → k ≠ m := fun k hk e => by have := new1 k hk; omega
      have ne2 : ∀ k, EB e2 k → k ≠ m := fun k hk e => by have := new2 k hk; omega
      have X1 := (E1.keep o2 ne1).keep o35 ne1
      have X2 := E2.keep o45 ne2
      have own5 := ownsRow_keep hown o5 (fun k hk e => by simp [Value.ownBlock] at hk; omega)
      have hl := ownsRow_lt own5 (w3.heap.size + 1) rfl
      refine ⟨⟨⟨es, e1, eu, .slice (some ⟨w3.heap.size + 1, 0, none⟩) 1 cap, fun k => EB e1 k ∨ EB eu k ∨ EB e2 k ∨ k = w3.heap.size + 1, k6, h2.keep oA nes, X1, h4.keep oA (fun k hk => (h9 k (h7 k hk)).2), ⟨e2, own5, X2, fun k hk => .inr (.inr (.inl hk)), fun k hk => ?_, h.s⟩, fun k hk => .inl hk, fun k hk => .inr (.inl hk), fun k hk => ⟨fun c => ?_, .inl (h8 k hk).2⟩, fun k hk => ?_, h10⟩, h.s, h.s, h.u, .inl h.hm, Ext.in h.inn oA.size⟩, oA⟩
      · simp [Value.ownBlock] at hk
        exact .inr (.inr (.inr hk.symm))
      · have hkw := h.inn k (h8 k hk).2
        rcases c with c | c | c | c
        · have := new1 k c; omega
        · exact (h8 k hk).1 (h7 k c)
        · have := new2 k c; omega
        · omega
      · rcases hk with c | c | c | c
        · exact ⟨.inr ⟨new1 k c, X1.lt k c⟩, ne1 k c⟩
        · exact ⟨.inl (h9 k (h7 k c)).1, (h9 k (h7 k c)).2⟩
        · exact ⟨.inr ⟨by have := new2 k c; omega, X2.lt k c⟩, ne2 k c⟩
        · subst c
          exact ⟨.inr ⟨by omega, hl⟩, by omega⟩)
    clear k3 k4 k5 k6 hZ o4 o5 E1 E2 F1 F2 o1 o2 o3 hown h1 h2 h3 h4 h5 h6 h7 h8 h9 h10 HF ZZ C2 HK2 d3 f3 z3 f4
    go_wp2_with fail
    go_ret
    exact ⟨rfl, unhide HP⟩
end
end Go.Proofs.Qxb6500410aGreat
