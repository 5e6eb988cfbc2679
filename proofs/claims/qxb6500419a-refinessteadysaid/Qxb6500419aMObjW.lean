/-
  OWN WORK. THE OBJECT MODEL: Abort, Mark, New, Clone, Crashed, Get, Drop.
-/
import Derived.Test.Qxb6500419aMObjP
namespace Go.Proofs.Qxb6500419a
open Go.RowKit
set_option linter.unusedSimpArgs false
set_option linter.unusedVariables false

section
variable {w : World} {m : Nat} {ob : Nat → Ob} {rt : Nat} {hist : Value} {H : Nat → Prop}

theorem only3 {w : World} {S : Nat → Prop} {w0 : World} {s i : Nat} (h : Only S w0 w) (hS : s < w0.heap.size → S s) (a b c : Value) : Only S w0 (((w.setCell ⟨s, i * 3, none⟩ a).setCell ⟨s, i * 3 + 1, none⟩ b).setCell ⟨s, i * 3 + 2, none⟩ c) :=
  ((h.setCell (p := ⟨s, i * 3, none⟩) hS a).setCell (p := ⟨s, i * 3 + 1, none⟩) hS b).setCell (p := ⟨s, i * 3 + 2, none⟩) hS c

theorem MAt.cells (h : MAt w m ob rt hist H) {i : Nat} (hin : In i) : (w.cell? ⟨m, i * 3, none⟩ = some (.int .i64 ((ob i).st : Int)) ∧ w.frozen? ⟨m, i * 3, none⟩ = false) ∧ (w.cell? ⟨m, i * 3 + 1, none⟩ = some (.int .i64 ((ob i).kd : Int)) ∧ w.frozen? ⟨m, i * 3 + 1, none⟩ = false) ∧ ∃ v, (w.cell? ⟨m, i * 3 + 2, none⟩ = some v ∧ w.frozen? ⟨m, i * 3 + 2, none⟩ = false) ∧ BytesAt w v (ob i).dat.length (dF (ob i).dat) ∧ (ob i).dat.length ≤ 180 := by
  obtain ⟨⟨sl, base, hm, hi⟩, ho1, hn⟩ := h
  obtain ⟨a, b, c, d, e⟩ := hi i hin
  have := hin.2
  have z0 := hm.state i (by omega)
  have z1 := hm.slot i 1 (by omega) (by omega)
  have z2 := hm.slot i 2 (by omega) (by omega)
  simp only [msCell] at z1 z2
  rw [a] at z0
  rw [b] at z1
  exact ⟨z0, z1, _, z2, d, c⟩
theorem MAt.put (h : MAt w m ob rt hist H) {i : Nat} (hin : In i) (o : Ob) (v : Value) (hv : BytesAt w v o.dat.length (dF o.dat)) (h180 : o.dat.length ≤ 180) (hvH : ∀ g, v.ownBlock = some g → H g ∧ g ≠ m) :
    MAt (((w.setCell ⟨m, i * 3, none⟩ (.int .i64 (o.st : Int))).setCell ⟨m, i * 3 + 1, none⟩ (.int .i64 (o.kd : Int))).setCell ⟨m, i * 3 + 2, none⟩ v) m (updT ob i o) rt hist H := by
  obtain ⟨⟨sl, base, hm, hi⟩, ho1, hn⟩ := h
  have h2 := hin.2
  have hp := hm.putSlot i (by omega) ⟨o.st, o.kd, v⟩
  have o1 : Only (fun k => k = m) w _ := only3 (i := i) (Only.refl (fun k => k = m) w) (fun _ => rfl) (.int .i64 (o.st : Int)) (.int .i64 (o.kd : Int)) v
  refine ⟨⟨_, base, hp, fun j hj => ?_⟩, ho1, fun k hk => Nat.lt_of_lt_of_le (hn k hk) o1.size⟩
  by_cases e : j = i
  · subst e; rw [updT_same, updT_same]
    exact ⟨rfl, rfl, h180, hv.keep o1 (fun k hk => (hvH k hk).2), hvH⟩
  · rw [updT_other _ _ _ _ e, updT_other _ _ _ _ e]
    obtain ⟨a, b, c, d, f⟩ := hi j hj
    exact ⟨a, b, c, d.keep o1 (fun k hk => (f k hk).2), f⟩
theorem bytes_nil (w : World) : BytesAt w (.slice none 0 0) 0 (dF []) := ⟨none, 0, rfl, fun h => by omega⟩
theorem MAt.setSt (h : MAt w m ob rt hist H) {i : Nat} (hin : In i) (x : Nat) : MAt (w.setCell ⟨m, i * 3, none⟩ (.int .i64 (x : Int))) m (updT ob i (setSt (ob i) x)) rt hist H := by
  obtain ⟨⟨sl, base, hm, hi⟩, ho1, hn⟩ := h
  have h2 := hin.2
  have hp := hm.setState i (by omega) x
  have o1 := only1 (w := w) (p := m) (i * 3) (.int .i64 (x : Int))
  refine ⟨⟨_, base, hp, fun j hj => ?_⟩, ho1, fun k hk => Nat.lt_of_lt_of_le (hn k hk) o1.size⟩
  by_cases e : j = i
  · subst e; rw [updT_same, updT_same]
    obtain ⟨a, b, c, d, f⟩ := hi j hj
    exact ⟨rfl, b, c, d.keep o1 (fun k hk => (f k hk).2), f⟩
  · rw [updT_other _ _ _ _ e, updT_other _ _ _ _ e]
    obtain ⟨a, b, c, d, f⟩ := hi j hj
    exact ⟨a, b, c, d.keep o1 (fun k hk => (f k hk).2), f⟩
theorem MAt.setRoot (h : MAt w m ob rt hist H) (x : Nat) : MAt (w.setCell ⟨m, 147, none⟩ (.int .i64 (x : Int))) m ob x hist H := by
  obtain ⟨⟨sl, base, hm, hi⟩, ho1, hn⟩ := h
  have o1 := only1 (w := w) (p := m) 147 (.int .i64 (x : Int))
  refine ⟨⟨_, base, hm.setRoot x, fun j hj => ?_⟩, ho1, fun k hk => Nat.lt_of_lt_of_le (hn k hk) o1.size⟩
  obtain ⟨a, b, c, d, f⟩ := hi j hj
  exact ⟨a, b, c, d.keep o1 (fun k hk => (f k hk).2), f⟩
theorem MAt.setHist (h : MAt w m ob rt hist H) (x : Value) : MAt (w.setCell ⟨m, 149, none⟩ x) m ob rt x H := by
  obtain ⟨⟨sl, base, hm, hi⟩, ho1, hn⟩ := h
  have o1 := only1 (w := w) (p := m) 149 x
  refine ⟨⟨_, base, hm.setHist x, fun j hj => ?_⟩, ho1, fun k hk => Nat.lt_of_lt_of_le (hn k hk) o1.size⟩
  obtain ⟨a, b, c, d, f⟩ := hi j hj
  exact ⟨a, b, c, d.keep o1 (fun k hk => (f k hk).2), f⟩
theorem MAt.setBase (h : MAt w m ob rt hist H) (x : Value) : MAt (w.setCell ⟨m, 148, none⟩ x) m ob rt hist H := by
  obtain ⟨⟨sl, base, hm, hi⟩, ho1, hn⟩ := h
  have o1 := only1 (w := w) (p := m) 148 x
  refine ⟨⟨_, x, hm.setBase x, fun j hj => ?_⟩, ho1, fun k hk => Nat.lt_of_lt_of_le (hn k hk) o1.size⟩
  obtain ⟨a, b, c, d, f⟩ := hi j hj
  exact ⟨a, b, c, d.keep o1 (fun k hk => (f k hk).2), f⟩
theorem MAt.rows (h : MAt w m ob rt hist H) : (w.cell? ⟨m, 147, none⟩ = some (.int .i64 (rt : Int)) ∧ w.frozen? ⟨m, 147, none⟩ = false) ∧ (∃ b, w.cell? ⟨m, 148, none⟩ = some b ∧ w.frozen? ⟨m, 148, none⟩ = false) ∧ (w.cell? ⟨m, 149, none⟩ = some hist ∧ w.frozen? ⟨m, 149, none⟩ = false) := by
  obtain ⟨⟨sl, base, hm, hi⟩, ho1, hn⟩ := h
  exact ⟨hm.root, ⟨base, hm.base_⟩, hm.hist_⟩
theorem MAt.lt (h : MAt w m ob rt hist H) : m < w.heap.size := h.inn m h.own

set_option maxRecDepth 100000 in
set_option maxHeartbeats 2000000 in
theorem mabort_any (h : MAt w m ob rt hist H) :
    Calls Try.prog 28 #[.pointer (some ⟨m, 0, none⟩)] w fun e w' => e = .returned (.tuple #[]) ∧ MAt w' m (fun i => abortO (ob i)) rt hist H ∧ Only (fun k => k = m) w w' := by
  have h0 : MAt w m (upTo abortO ob 1) rt hist H := h.ext (fun i hin => by
    have := hin.1
    unfold upTo
    rw [if_neg (by omega)]
    exact ⟨rfl, rfl, rfl⟩)
  have H0 := hide h0
  clear h h0
  go_enter Try.func28, Try.ntmps28
  go_wp2_with fail
  go_loopw [2] (fun kv wr => ∃ k : Nat, 1 ≤ k ∧ k ≤ 49 ∧ kv = .int .i64 k ∧ MAt wr m (upTo abortO ob k) rt hist H ∧ Only (fun k => k = m) w wr) (fun kv _ => (49 - intOf kv).toNat)
  case atStart => exact ⟨1, by omega, by omega, rfl, unhide H0, Only.refl _ _⟩
  case round =>
    clear H0
    obtain ⟨k, hk1, hk, rfl, hM, ho⟩ := hrel
    by_cases hk8 : k < 49
    · have hin : In k := ⟨hk1, by omega⟩
      have a1 : decide ((k : Int) ≤ 48) = true := by simp; omega
      have a2 : (k : Int) < 49 := by omega
      obtain ⟨z0, z1, v, z2, _, _⟩ := hM.cells hin
      have hat := upTo_at abortO ob k
      have hsu := upTo_succ abortO ob k
      rw [hat] at z0 z1
      by_cases e1 : (ob k).st = 1
      · have ea : abortO (ob k) = Ob.free := by unfold abortO; rw [if_pos e1]
        rw [ea] at hsu
        have hp := hM.put hin Ob.free (.slice none 0 0) (bytes_nil wr) (by simp [Ob.free]) (fun g hg => by simp [Value.ownBlock] at hg)
        rw [← hsu] at hp
        have Hp := hide hp
        rw [e1] at z0
        clear hp hM hsu hat ea
        generalize (ob k).kd = kd at *
        go_wp2_with fail
        go_roundw
        case rel => exact ⟨k + 1, by omega, by omega, by go_num, unhide Hp, only3 ho (fun _ => rfl) _ _ _⟩
        case measure => simp [intOf]; omega
      · by_cases e3 : (ob k).st = 3
        · have ea : abortO (ob k) = setSt (ob k) 2 := by unfold abortO; rw [if_neg e1, if_pos e3]
          have hp := hM.setSt hin 2
          rw [hat, ← ea, ← hsu] at hp
          have Hp := hide hp
          rw [e3] at z0
          clear hp hM hsu hat ea
          generalize (ob k).kd = kd at *
          go_wp2_with fail
          go_roundw
          case rel => exact ⟨k + 1, by omega, by omega, by go_num, unhide Hp, ho.setCell (p := ⟨m, k * 3, none⟩) (fun _ => rfl) _⟩
          case measure => simp [intOf]; omega
        · have ea : abortO (ob k) = ob k := by unfold abortO; rw [if_neg e1, if_neg e3]
          have hsame : upTo abortO ob (k + 1) = upTo abortO ob k := by
            rw [hsu, ea]
            have := updT_self (upTo abortO ob k) k
            rw [hat] at this
            exact this
          rw [← hsame] at hM
          have Hp := hide hM
          clear hM hsu hat ea hsame
          generalize (ob k).kd = kd at *
          generalize (ob k).st = st at *
          have b1 : ((st : Int) == 1) = false := ne_intO (by omega)
          have b3 : ((st : Int) == 3) = false := ne_intO (by omega)
          go_wp2_with fail
          go_roundw
          case rel => exact ⟨k + 1, by omega, by omega, by go_num, unhide Hp, ho⟩
          case measure => simp [intOf]; omega
    · obtain rfl : k = 49 := by omega
      have hM' : MAt wr m (fun i => abortO (ob i)) rt hist H := hM.ext (fun i hin => by
        have := hin.2
        unfold upTo
        rw [if_pos (by omega)]
        exact ⟨rfl, rfl, rfl⟩)
      have HM := hide hM'
      clear hM hM'
      go_wp2_with fail
      go_end0
      exact ⟨rfl, unhide HM, ho⟩

set_option maxRecDepth 100000 in
theorem mmark_any (h : MAt w m ob rt hist H) :
    Calls Try.prog 15 #[.pointer (some ⟨m, 0, none⟩)] w fun e w' => e = .returned (.tuple #[]) ∧ MAt w' m ob rt (.slice none 0 0) H ∧ Only (fun k => k = m) w w' := by
  have C1 := hide (mplain_any h)
  have hml := h.lt
  go_enter Try.func15, Try.ntmps15
  go_wp2_with fail
  refine (unhide C1).mono ?_
  rintro e w1 ⟨rfl, h1, ho1⟩
  have C2 := hide (mabort_any h1)
  go_wp2_with fail
  refine (unhide C2).mono ?_
  rintro e w2 ⟨rfl, h2, ho2⟩
  have hA := (h.quiet ho1).keep ho2 (fun k hk e => by have := h.inn k hk; omega)
  obtain ⟨_, ⟨b, z8⟩, _⟩ := hA.rows
  have hB := hA.setBase (.pointer (some ⟨w.heap.size, 0, none⟩))
  obtain ⟨_, _, z9⟩ := hB.rows
  have hC := hB.setHist (.slice none 0 0)
  have HC := hide hC
  have o2 : Only (fun k => k = m) w w2 := (ho1.mono (fun _ _ h => h.elim)).trans ho2 (fun i hi e => by omega)
  clear hA hB hC C1 C2 h1 h2 h
  generalize w.heap.size = c at *
  go_wp2_with fail
  go_end0
  exact ⟨rfl, unhide HC, (o2.setCell (p := ⟨m, 148, none⟩) (fun _ => rfl) _).setCell (p := ⟨m, 149, none⟩) (fun _ => rfl) _⟩

theorem mclone_any (h : MAt w m ob rt hist H) :
    Calls Try.prog 11 #[.pointer (some ⟨m, 0, none⟩)] w fun e w' => e = .returned (.pointer (some ⟨w.heap.size, 0, none⟩)) ∧ MAt w' w.heap.size ob rt (.slice none 0 0) (Ext (fun _ => False) w w') ∧ Only (fun _ => False) w w' := by
  have C1 := hide (mplain_any h)
  go_enter Try.func11, Try.ntmps11
  go_wp2_with fail
  refine (unhide C1).mono ?_
  rintro e w1 ⟨rfl, h1, ho1⟩
  have C2 := hide (mmark_any h1)
  have z1 := ho1.size
  go_wp2_with fail
  refine (unhide C2).mono ?_
  rintro e w2 ⟨rfl, h2, ho2⟩
  have z2 := ho2.size
  go_wp2_with fail
  go_ret
  refine ⟨rfl, h2.mono ?_ ?_, ho1.trans ho2 (fun i hi e => by omega)⟩
  · intro k hk
    rcases hk with hk | hk
    · exact hk.elim
    · exact .inr ⟨hk.1, by omega⟩
  · intro k hk
    rcases hk with hk | hk
    · exact hk.elim
    · exact hk.2

theorem mcrashed_any (h : MAt w m ob rt hist H) :
    Calls Try.prog 22 #[.pointer (some ⟨m, 0, none⟩)] w fun e w' => e = .returned (.pointer (some ⟨w.heap.size, 0, none⟩)) ∧ MAt w' w.heap.size (fun i => abortO (ob i)) rt (.slice none 0 0) (Ext (fun _ => False) w w') ∧ Only (fun _ => False) w w' := by
  have C1 := hide (mplain_any h)
  go_enter Try.func22, Try.ntmps22
  go_wp2_with fail
  refine (unhide C1).mono ?_
  rintro e w1 ⟨rfl, h1, ho1⟩
  have C2 := hide (mabort_any h1)
  have z1 := ho1.size
  go_wp2_with fail
  refine (unhide C2).mono ?_
  rintro e w2 ⟨rfl, h2, ho2⟩
  have C3 := hide (mmark_any h2)
  have z2 := ho2.size
  go_wp2_with fail
  refine (unhide C3).mono ?_
  rintro e w3 ⟨rfl, h3, ho3⟩
  have z3 := ho3.size
  go_wp2_with fail
  go_ret
  refine ⟨rfl, h3.mono ?_ ?_, (ho1.trans ho2 (fun i hi e => by omega)).trans ho3 (fun i hi e => by omega)⟩
  · intro k hk
    rcases hk with hk | hk
    · exact hk.elim
    · exact .inr ⟨hk.1, by omega⟩
  · intro k hk
    rcases hk with hk | hk
    · exact hk.elim
    · exact hk.2

theorem mnew_any (w : World) :
    Calls Try.prog 10 #[] w fun e w' => e = .returned (.pointer (some ⟨w.heap.size, 0, none⟩)) ∧ MAt w' w.heap.size (fun _ => Ob.free) 0 (.slice none 0 0) (Ext (fun _ => False) w w') ∧ Only (fun _ => False) w w' := by
  have h0 : MAt (w.alloc (.cells Try.zeroCells53 53)) w.heap.size (fun _ => Ob.free) 0 (.slice none 0 0) (Ext (fun _ => False) w (w.alloc (.cells Try.zeroCells53 53))) := by
    have hz : MM (w.alloc (.cells Try.zeroCells53 53)) w.heap.size (fun _ => MS.zero) 0 (.pointer none) (.slice none 0 0) := by
      have := Has.new w Try.zeroCells53 53
      exact (congrArg (fun a => Has (w.alloc (.cells Try.zeroCells53 53)) w.heap.size a 53) mstore_zero).mp this
    refine ⟨⟨_, _, hz, fun i hin => ⟨rfl, rfl, by simp [Ob.free], bytes_nil _, fun g hg => by simp [MS.zero, Value.ownBlock] at hg⟩⟩, .inr ⟨Nat.le_refl _, by simp⟩, ?_⟩
    intro k hk
    rcases hk with hk | hk
    · exact hk.elim
    · exact hk.2
  have ho0 : Only (fun _ => False) w (w.alloc (.cells Try.zeroCells53 53)) := (Only.refl _ w).alloc _
  have z0 := ho0.size
  have C1 := hide (mmark_any h0)
  go_enter Try.func10, Try.ntmps10
  go_wp2_with fail
  refine (unhide C1).mono ?_
  rintro e w1 ⟨rfl, h1, ho1⟩
  have z1 := ho1.size
  clear h0 C1
  go_wp2_with fail
  go_ret
  refine ⟨rfl, h1.mono ?_ ?_, ho0.trans ho1 (fun i hi e => by omega)⟩
  · intro k hk
    rcases hk with hk | hk
    · exact hk.elim
    · exact .inr ⟨hk.1, by omega⟩
  · intro k hk
    rcases hk with hk | hk
    · exact hk.elim
    · exact hk.2

theorem mget_no (h : MAt w m ob rt hist H) (id : Int) (hl : liveI ob id = false) :
    Calls Try.prog 54 #[.pointer (some ⟨m, 0, none⟩), .int .i64 id] w fun e w' => e = .returned (.tuple #[.int .i64 0, .slice none 0 0, .int .i64 6]) ∧ w = w' := by
  have C1 := mlive_any h id
  rw [hl] at C1
  have C1 := hide C1
  go_enter Try.func54, Try.ntmps54
  go_wp2_with fail
  refine (unhide C1).mono ?_
  rintro e w1 ⟨rfl, rfl⟩
  go_wp2_with fail
  refine bodyPost_ret (v := .tuple #[.int .i64 0, .slice none 0 0, .int .i64 6]) (by simp [results, Try.results54, go_sem]) rfl ?_
  exact ⟨rfl, rfl⟩

set_option maxRecDepth 100000 in
set_option maxHeartbeats 2000000 in
theorem mget_in (h : MAt w m ob rt hist H) (i : Nat) (hin : In i) (hl : liveO (ob i) = true) (n : Nat) (hn : (ob i).dat.length = n) :
    Calls Try.prog 54 #[.pointer (some ⟨m, 0, none⟩), .int .i64 i] w fun e w' => e = .returned (.tuple #[.int .i64 ((ob i).kd : Int), .slice (some ⟨w.heap.size, 0, none⟩) n n, .int .i64 0]) ∧ BytesAt w' (.slice (some ⟨w.heap.size, 0, none⟩) n n) n (dF (ob i).dat) ∧ w.heap.size < w'.heap.size ∧ Only (fun _ => False) w w' := by
  have C1 := mlive_any h i
  rw [liveI_nat ob i hin, hl] at C1
  have C1 := hide C1
  obtain ⟨z0, z1, v, z2, hb, h180⟩ := h.cells hin
  rw [hn] at hb h180
  have i1 : (i : Int) < 49 := by have := hin.2; omega
  have hml := h.lt
  have C2 := hide (fun (wx : World) (hx : Only (fun _ => False) w wx) => copyBytes_any v n (dF (ob i).dat) (hb.keep hx (fun _ _ h => h)) (by omega))
  clear h hb
  generalize (ob i).kd = kd at *
  go_enter Try.func54, Try.ntmps54
  go_wp2_with fail
  refine (unhide C1).mono ?_
  rintro e w1 ⟨rfl, rfl⟩
  go_wp2_with fail
  go_region_with (go_at_call 48; refine ((unhide C2) _ ?_).mono ?_; exact (Only.refl (fun _ => False) _).drew; rintro e w2 ⟨rfl, rfl⟩)
  all_goals
    go_wp2_with fail
    refine bodyPost_ret (v := .tuple #[.int .i64 (kd : Int), .slice (some ⟨w.heap.size, 0, none⟩) n n, .int .i64 0]) (by simp [results, Try.results54, go_sem]) rfl ?_
    exact ⟨rfl, bytesAt_ofP (Has.drew (Has.new w _ _)), by simp, ((Only.refl (fun _ => False) w).alloc _).drew⟩

theorem mdrop_no (h : MAt w m ob rt hist H) (id : Int) (hl : liveI ob id = false) :
    Calls Try.prog 56 #[.pointer (some ⟨m, 0, none⟩), .int .i64 id] w fun e w' => e = .returned (.int .i64 6) ∧ w = w' := by
  have C1 := mlive_any h id
  rw [hl] at C1
  have C1 := hide C1
  go_enter Try.func56, Try.ntmps56
  go_wp2_with fail
  refine (unhide C1).mono ?_
  rintro e w1 ⟨rfl, rfl⟩
  go_wp2_with fail
  go_ret
  exact ⟨rfl, rfl⟩
set_option maxRecDepth 100000 in
theorem mdrop_in (h : MAt w m ob rt hist H) (i : Nat) (hin : In i) (hl : liveO (ob i) = true) :
    Calls Try.prog 56 #[.pointer (some ⟨m, 0, none⟩), .int .i64 i] w fun e w' => e = .returned (.int .i64 0) ∧ MAt w' m (updT ob i (dropO (ob i))) rt hist H ∧ Only (fun k => k = m) w w' := by
  have C1 := mlive_any h i
  rw [liveI_nat ob i hin, hl] at C1
  have C1 := hide C1
  obtain ⟨z0, z1, v, z2, _, _⟩ := h.cells hin
  have i1 : (i : Int) < 49 := by have := hin.2; omega
  by_cases e1 : (ob i).st = 1
  · have ed : dropO (ob i) = Ob.free := by unfold dropO; rw [if_pos e1]
    rw [ed]
    have Hp := hide (h.put hin Ob.free (.slice none 0 0) (bytes_nil w) (by simp [Ob.free]) (fun g hg => by simp [Value.ownBlock] at hg))
    rw [e1] at z0
    clear h ed
    generalize (ob i).kd = kd at *
    go_enter Try.func56, Try.ntmps56
    go_wp2_with fail
    refine (unhide C1).mono ?_
    rintro e w1 ⟨rfl, rfl⟩
    go_wp2_with fail
    go_ret
    exact ⟨rfl, unhide Hp, only3 (Only.refl (fun k => k = m) w) (fun _ => rfl) _ _ _⟩
  · have e2 : (ob i).st = 2 := by unfold liveO at hl; simpa [e1] using hl
    have ed : dropO (ob i) = setSt (ob i) 3 := by unfold dropO; rw [if_neg e1]
    rw [ed]
    have Hp := hide (h.setSt hin 3)
    rw [e2] at z0
    clear h ed
    generalize (ob i).kd = kd at *
    go_enter Try.func56, Try.ntmps56
    go_wp2_with fail
    refine (unhide C1).mono ?_
    rintro e w1 ⟨rfl, rfl⟩
    go_wp2_with fail
    go_ret
    exact ⟨rfl, unhide Hp, only1 (i * 3) _⟩
end
end Go.Proofs.Qxb6500419a
