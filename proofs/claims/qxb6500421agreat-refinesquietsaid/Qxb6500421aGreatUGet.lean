/-
  OWN WORK. THE TREE MODEL: Get, ReadTree, Drop.
-/
import Derived.Test.Qxb6500421aGreatUOps
import Derived.Test.Qxb6500421aGreatTRd
import Derived.Test.Qxb6500421aGreatTDrp
namespace Go.Proofs.Qxb6500421aGreat
open Go.RowKit Go.PlainAid
set_option linter.unusedSimpArgs false
set_option linter.unusedVariables false

section
variable {w : World} {m : Nat} {J : Nat → Sl} {rt : Nat} {hist : Value} {H : Nat → Prop}
set_option maxRecDepth 100000 in
set_option maxHeartbeats 2000000 in
theorem uget_any (h : UAt w m J rt hist H) (id : Int) :
    Calls Tryz.prog 60 #[.pointer (some ⟨m, 0, none⟩), .int .i64 id] w fun e w' => ∃ v, e = .returned (.tuple #[.int .i64 (tgK J id : Nat), v, .int .i64 (tgE J id : Nat)]) ∧ BytesAt w' v (tgD J id).length (dF (tgD J id)) ∧ (∀ y, v.ownBlock = some y → w.heap.size ≤ y ∧ y < w'.heap.size) ∧ Only (fun _ => False) w w' := by
  have C1 := ulive_any h id
  cases hl : liveJ J id with
  | false =>
    have e1 : tgK J id = 0 := by unfold tgK; rw [hl]; rfl
    have e2 : tgD J id = [] := by unfold tgD; rw [hl]; simp
    have e3 : tgE J id = 6 := by unfold tgE; rw [hl]; rfl
    rw [e1, e2, e3]
    rw [hl] at C1
    have C1 := hide C1
    clear h e1 e2 e3 hl
    go_enter Tryz.func60, Tryz.ntmps60
    go_wp2_with fail
    refine (unhide C1).mono ?_
    rintro e w1 ⟨rfl, rfl⟩
    go_wp2_with fail
    refine bodyPost_ret (v := .tuple #[.int .i64 0, .slice none 0 0, .int .i64 6]) (by simp [results, Tryz.results60, go_sem]) rfl ?_
    exact ⟨_, rfl, nil_bytes w _, fun y hy => by simp [Value.ownBlock] at hy, Only.refl _ _⟩
  | true =>
    obtain ⟨i, rfl, hi, hls⟩ := liveJ_in hl
    obtain ⟨dv, lv, kv, hc⟩ := h.cells hi
    have ei : ((i : Int).toNat) = i := by simp
    have e1 : tgK J (i : Int) = (J i).kd := by unfold tgK; rw [hl, ei]; simp
    have e3 : tgE J (i : Int) = 0 := by unfold tgE; rw [hl]; rfl
    have i1 : (i : Int) < 49 := by have := hi.2; omega
    have z1 := hc.c1.1
    have z2 := hc.c2.1
    have hml := h.lt
    rw [hl] at C1
    have C1 := hide C1
    by_cases hk : (J i).kd = 2
    · have e2 : tgD J (i : Int) = [] := by unfold tgD; rw [ei]; simp [hk]
      rw [e1, e2, e3, hk]
      rw [hk] at z1
      clear h hc e1 e2 e3 hl
      go_enter Tryz.func60, Tryz.ntmps60
      go_wp2_with fail
      refine (unhide C1).mono ?_
      rintro e w1 ⟨rfl, rfl⟩
      go_wp2_with fail
      refine bodyPost_ret (v := .tuple #[.int .i64 2, .slice none 0 0, .int .i64 0]) (by simp [results, Tryz.results60, go_sem]) rfl ?_
      exact ⟨_, rfl, nil_bytes w _, fun y hy => by simp [Value.ownBlock] at hy, Only.refl _ _⟩
    · have e2 : tgD J (i : Int) = (J i).dat := by unfold tgD; rw [ei, if_pos ⟨hl, hk⟩]
      have em : mD (J i) = (J i).dat := by unfold mD; rw [if_neg hk]
      have hb := hc.db
      have h180 := hc.d180
      rw [em] at hb h180
      rw [e1, e2, e3]
      clear h hc e1 e2 e3 hl em
      generalize hn : (J i).dat.length = n at *
      have C2 := hide (fun (wx : World) (hx : Only (fun _ => False) w wx) => copyBytes_any dv n (dF (J i).dat) (hb.keep hx (fun _ _ h => h)) (by omega))
      generalize (J i).kd = kd at *
      have b2 : ((kd : Int) == 2) = false := ne_intO (by omega)
      clear hn hb hk
      go_enter Tryz.func60, Tryz.ntmps60
      go_wp2_with fail
      refine (unhide C1).mono ?_
      rintro e w1 ⟨rfl, rfl⟩
      go_wp2_with fail
      go_region_with (go_at_call 47; refine ((unhide C2) _ ?_).mono ?_; exact (Only.refl (fun _ => False) _).drew; rintro e w2 ⟨rfl, rfl⟩)
      all_goals
        go_wp2_with fail
        refine bodyPost_ret (v := .tuple #[.int .i64 (kd : Int), .slice (some ⟨w.heap.size, 0, none⟩) n n, .int .i64 0]) (by simp [results, Tryz.results60, go_sem]) rfl ?_
        exact ⟨_, rfl, bytesAt_ofU (Has.drew (Has.new w _ _)), fun y hy => by simp [Value.ownBlock] at hy; subst hy; exact ⟨Nat.le_refl _, by simp⟩, ((Only.refl (fun _ => False) w).alloc _).drew⟩

theorem uread_any (h : UAt w m J rt hist H) (id : Int) :
    Calls Tryz.prog 67 #[.pointer (some ⟨m, 0, none⟩), .int .i64 id] w fun e w' => ∃ v, e = .returned (.tuple #[v, .int .i64 (trE J id : Nat)]) ∧ EntsIn w' v (trL J id) ∧ (∀ y, v.ownBlock = some y → w.heap.size ≤ y ∧ y < w'.heap.size) ∧ Only (fun _ => False) w w' := by
  have C0 := ulive_any h id
  cases hl : liveJ J id with
  | false =>
    have e6 : trE J id = 6 := by unfold trE; rw [if_pos hl]
    have eL : trL J id = [] := by unfold trL; rw [e6]; rfl
    rw [e6, eL]
    rw [hl] at C0
    have C0 := hide C0
    clear h e6 eL hl
    go_enter Tryz.func67, Tryz.ntmps67
    go_wp2_with fail
    refine (unhide C0).mono ?_
    rintro e w1 ⟨rfl, rfl⟩
    go_wp2_with fail
    refine bodyPost_ret (v := .tuple #[.slice none 0 0, .int .i64 6]) (by simp [results, Tryz.results67, go_sem]) rfl ?_
    exact ⟨_, rfl, EntsIn.nil w, fun y hy => by simp [Value.ownBlock] at hy, Only.refl _ _⟩
  | true =>
    obtain ⟨i, rfl, hi, hls⟩ := liveJ_in hl
    obtain ⟨dv, lv, kv, hc⟩ := h.cells hi
    have ck := hc.c1.1
    have cl := hc.c3.1
    have i1 : (i : Int) < 49 := by have := hi.2; omega
    have hml := h.lt
    rw [hl] at C0
    have C0 := hide C0
    by_cases hk : (J i).kd = 2
    · have e0 : trE J (i : Int) = 0 := by unfold trE; rw [hl]; simp [hk]
      have eL : trL J (i : Int) = (J i).lst := by unfold trL; rw [if_pos e0]; simp
      rw [e0, eL]
      rw [hk] at ck
      have C2 := hide (ucopyList_any lv (J i).lst hc.lb (by have := hc.l8; omega))
      clear h hc e0 eL hl
      generalize (J i).lst = L at *
      go_enter Tryz.func67, Tryz.ntmps67
      go_wp2_with fail
      refine (unhide C0).mono ?_
      rintro e w1 ⟨rfl, rfl⟩
      go_wp2_with fail
      refine (unhide C2).mono ?_
      rintro e w2 ⟨v, rfl, q1, q2, q3⟩
      have Q1 := hide q1.in_
      have Q2 := hide (fun y hy => (⟨q2 y hy, ownsRow_lt q1 y hy⟩ : w.heap.size ≤ y ∧ y < w2.heap.size))
      clear q1 q2
      go_wp2_with fail
      refine bodyPost_ret (v := .tuple #[v, .int .i64 0]) (by simp [results, Tryz.results67, go_sem]) rfl ?_
      exact ⟨_, rfl, unhide Q1, unhide Q2, q3⟩
    · have e3 : trE J (i : Int) = 3 := by unfold trE; rw [hl]; simp [hk]
      have eL : trL J (i : Int) = [] := by unfold trL; rw [e3]; rfl
      rw [e3, eL]
      clear h hc e3 eL hl
      generalize (J i).kd = kd at *
      have e2 : ((kd : Int) != 2) = true := by simp; omega
      go_enter Tryz.func67, Tryz.ntmps67
      go_wp2_with fail
      refine (unhide C0).mono ?_
      rintro e w1 ⟨rfl, rfl⟩
      go_wp2_with fail
      refine bodyPost_ret (v := .tuple #[.slice none 0 0, .int .i64 3]) (by simp [results, Tryz.results67, go_sem]) rfl ?_
      exact ⟨_, rfl, EntsIn.nil w, fun y hy => by simp [Value.ownBlock] at hy, Only.refl _ _⟩

theorem udrop_no (h : UAt w m J rt hist H) (id : Int) (hl : liveJ J id = false) :
    Calls Tryz.prog 74 #[.pointer (some ⟨m, 0, none⟩), .int .i64 id] w fun e w' => e = .returned (.int .i64 6) ∧ w = w' := by
  have C1 := ulive_any h id
  rw [hl] at C1
  have C1 := hide C1
  clear h
  go_enter Tryz.func74, Tryz.ntmps74
  go_wp2_with fail
  refine (unhide C1).mono ?_
  rintro e w1 ⟨rfl, rfl⟩
  go_wp2_with fail
  go_ret
  exact ⟨rfl, rfl⟩
/-- id is named by a row of t. -/
def names (J : Nat → Sl) (t i : Nat) : Prop := liveS (J t) = true ∧ ∃ r ∈ (J t).rws, r.id = i
set_option maxRecDepth 100000 in
set_option maxHeartbeats 4000000 in
theorem udrop_in (h : UAt w m J rt hist H) (i : Nat) (hi : In i) (hl : liveS (J i) = true) :
    Calls Tryz.prog 74 #[.pointer (some ⟨m, 0, none⟩), .int .i64 i] w fun e w' => (busy J i ∧ e = .returned (.int .i64 7) ∧ w = w') ∨ (¬ busy J i ∧ e = .returned (.int .i64 0) ∧ UAt w' m (dropJ J i) rt hist H ∧ Only (fun k => k = m) w w') := by
  have C1 := ulive_any h i
  rw [liveJ_nat hi, hl] at C1
  have C1 := hide C1
  have i1 : (i : Int) < 49 := by have := hi.2; omega
  have hml := h.lt
  have HU := hide h
  clear h
  go_enter Tryz.func74, Tryz.ntmps74
  go_wp2_with fail
  refine (unhide C1).mono ?_
  rintro e w1 ⟨rfl, rfl⟩
  clear C1
  go_wp2_with fail
  go_loopw [5] (fun kv wr => ∃ k : Nat, 1 ≤ k ∧ k ≤ 49 ∧ kv = .int .i64 k ∧ (∀ j, In j → j < k → ¬ names J j i) ∧ w = wr) (fun kv _ => (49 - intOf kv).toNat)
  case atStart => exact ⟨1, by omega, by omega, rfl, fun j hj hlt => by have := hj.1; omega, rfl⟩
  case round =>
    obtain ⟨k, hk1, hk, rfl, hno, rfl⟩ := hrel
    by_cases hk8 : k < 49
    · have hin : In k := ⟨hk1, by omega⟩
      have a1 : decide ((k : Int) ≤ 48) = true := by simp; omega
      have a2 : (k : Int) < 49 := by omega
      have C1 := ulive_any (unhide HU) k
      rw [liveJ_nat hin] at C1
      have Hno := hide hno
      clear hno
      cases hlk : liveS (J k) with
      | false =>
        rw [hlk] at C1
        have C1 := hide C1
        have Hnext : Hid (∀ j, In j → j < k + 1 → ¬ names J j i) := hide (fun j hj hlt hn => by
          by_cases e : j = k
          · subst e; have h1 := hn.1; rw [hlk] at h1; cases h1
          · exact unhide Hno j hj (by omega) hn)
        clear hlk
        go_wp2_with fail
        refine (unhide C1).mono ?_
        rintro e w1 ⟨rfl, rfl⟩
        go_wp2_with fail
        go_roundw
        case rel => exact ⟨k + 1, by omega, by omega, by go_num, unhide Hnext, by first | exact rfl | trivial⟩
        case measure => simp [intOf]; omega
      | true =>
        rw [hlk] at C1
        have C1 := hide C1
        obtain ⟨dv, lv, kv, hc⟩ := (unhide HU).cells hin
        have hk8' := hc.k8
        obtain ⟨ka, kc, rfl, hcell⟩ := hc.kb
        have ck := hc.c4.1
        have hlen : (kidL (J k)).length = (J k).rws.length := by simp [kidL]
        rw [hlen] at ck hk8'
        have hat : ∀ j (h1 : j < (kidL (J k)).length) (h2 : j < (J k).rws.length), (kidL (J k))[j] = ((J k).rws[j].id : Int) := fun j h1 h2 => by simp [kidL]
        have Hat := hide hat
        have Hlen := hide hlen
        have Hcell := hide hcell
        have Hnext : Hid ((∀ r ∈ (J k).rws, r.id ≠ i) → ∀ j, In j → j < k + 1 → ¬ names J j i) := hide (fun hh j hj hlt hn => by
          by_cases e : j = k
          · subst e; obtain ⟨_, r, hr, he⟩ := hn; exact hh r hr he
          · exact unhide Hno j hj (by omega) hn)
        have Hbusy : Hid ((∃ r ∈ (J k).rws, r.id = i) → busy J i) := hide (fun ⟨r, h1, h2⟩ => ⟨k, hin, hlk, r, h1, h2⟩)
        clear hlk hc hat hlen hcell Hno
        generalize kidL (J k) = kids at *
        generalize (J k).rws = rs at *
        go_wp2_with fail
        refine (unhide C1).mono ?_
        rintro e w1 ⟨rfl, rfl⟩
        go_wp2_with fail
        go_loopw [6] (fun jv wr => ∃ j : Nat, jv = .int .i64 j ∧ j ≤ rs.length ∧ (∀ r ∈ rs.take j, r.id ≠ i) ∧ w = wr) (fun jv _ => rs.length - (intOf jv).toNat)
        case atStart => exact ⟨0, rfl, by omega, by simp, rfl⟩
        case round =>
          obtain ⟨j, rfl, hj, hall, rfl⟩ := hrel
          by_cases hjl : j < rs.length
          · have hj2 : j < kids.length := by have := unhide Hlen; omega
            obtain ⟨q, rfl, hcc⟩ := unhide Hcell (by omega)
            have y0 := hcc j hj2
            rw [unhide Hat j hj2 hjl] at y0
            have b1 : decide ((j : Int) < (rs.length : Int)) = true := decide_eq_true (by omega)
            have b1n : decide (j < rs.length) = true := decide_eq_true hjl
            have b2 : (j : Int) < (rs.length : Int) := by omega
            have htk : rs.take (j + 1) = rs.take j ++ [rs[j]] := List.take_succ_eq_append_getElem hjl
            by_cases hid : rs[j].id = i
            · have HB := hide (unhide Hbusy ⟨rs[j], List.getElem_mem hjl, hid⟩)
              rw [hid] at y0
              have b3 : ((i : Int) == (i : Int)) = true := by simp
              clear hall htk hcc hid Hnext Hbusy
              go_wp2_with fail
              go_ret
              exact .inl ⟨unhide HB, rfl, rfl⟩
            · have Hall : Hid (∀ r ∈ rs.take (j + 1), r.id ≠ i) := hide (fun r hr => by
                rw [htk] at hr
                rcases List.mem_append.1 hr with e | e
                · exact hall r e
                · have : r = rs[j] := by simpa using e
                  rw [this]; exact hid)
              clear hall htk hcc
              generalize rs[j].id = ri at *
              have b3 : ((ri : Int) == (i : Int)) = false := ne_intO (by omega)
              go_wp2_with fail
              go_roundw
              case rel => exact ⟨j + 1, by go_num, by omega, unhide Hall, by first | exact rfl | trivial⟩
              case measure => simp [intOf]; omega
          · have b1 : decide ((j : Int) < (rs.length : Int)) = false := decide_eq_false (by omega)
            have b1n : decide (j < rs.length) = false := decide_eq_false hjl
            have ej : j = rs.length := by omega
            rw [ej, List.take_length] at hall
            have HN := hide (unhide Hnext hall)
            clear hall ej Hnext
            go_wp2_with fail
            go_roundw
            case rel => exact ⟨k + 1, by omega, by omega, by go_num, unhide HN, by first | exact rfl | trivial⟩
            case measure => simp [intOf]; omega
    · obtain rfl : k = 49 := by omega
      have hnb : ¬ busy J i := fun ⟨t, ht, hlt, r, hr, he⟩ => hno t ht (by have := ht.2; omega) ⟨hlt, r, hr, he⟩
      have HN := hide hnb
      obtain ⟨dv, lv, kv, hc⟩ := (unhide HU).cells hi
      have z0 := hc.c0
      have z1 := hc.c1
      have z2 := hc.c2
      have z3 := hc.c3
      have z4 := hc.c4
      clear hc hno hnb
      by_cases e1 : (J i).st = 1
      · have ed : dropJ J i = updT J i Sl.free := by unfold dropJ dropS; rw [if_pos e1]
        have hp := (unhide HU).clear hi
        rw [← ed] at hp
        have Hp := hide hp
        rw [e1] at z0
        clear hp ed
        generalize (J i).kd = kd at *
        go_wp2_with fail
        go_ret
        exact .inr ⟨unhide HN, rfl, unhide Hp, only5 (i := i) (Only.refl (fun k => k = m) w) (fun _ => rfl) US.zero⟩
      · have e2 : (J i).st = 2 := by rw [liveS_iff] at hl; omega
        have ed : dropJ J i = updT J i (stS (J i) 3) := by unfold dropJ dropS; rw [if_neg e1]
        have hp := (unhide HU).setSt hi 3
        rw [← ed] at hp
        have Hp := hide hp
        rw [e2] at z0
        clear hp ed
        generalize (J i).kd = kd at *
        go_wp2_with fail
        go_ret
        exact .inr ⟨unhide HN, rfl, unhide Hp, only1 (i * 5) _⟩
end
end Go.Proofs.Qxb6500421aGreat
