/-
  OWN WORK. THE MERGE: closed, piece.
-/
import Derived.Test.Qxb6500416aDAp
namespace Go.Proofs.Qxb6500416a
open Go.RowKit Go.PlainAid
set_option linter.unusedSimpArgs false
set_option linter.unusedVariables false

theorem bt_sb (x : Str) (i : Nat) (h : i < x.length) : bt (sb x) i = (x[i].toNat : Int) := by
  obtain ⟨c, hc, hd⟩ := ls_at (sb x) i (by rw [sb_size]; exact h)
  rw [hc]
  rw [ls_sb, List.drop_eq_getElem_cons h] at hd
  rw [(List.cons.inj hd).1]
theorem last_byte (x : Str) (h : x ≠ []) : ∃ (m : Nat) (c : UInt8), (sb x).size = m + 1 ∧ x.length = m + 1 ∧ x.getLast? = some c ∧ bt (sb x) m = (c.toNat : Int) := by
  obtain ⟨m, hm⟩ : ∃ m, x.length = m + 1 := ⟨_, (Nat.succ_pred_eq_of_pos (List.length_pos_iff.2 h)).symm⟩
  refine ⟨m, x[m], by rw [sb_size, hm], hm, ?_, bt_sb x m (by omega)⟩
  rw [List.getLast?_eq_getElem?]
  have : x.length - 1 = m := by omega
  rw [this, List.getElem?_eq_getElem]
theorem closeS_nil : closeS [] = [] := by simp [closeS]
theorem closeS_nl {s : Str} (h : s.getLast? = some 10) : closeS s = s := by
  unfold closeS
  rw [if_neg (fun hh => hh.2 h)]
theorem closeS_add {s : Str} (h1 : s ≠ []) (h : s.getLast? ≠ some 10) : closeS s = s ++ [10] := by
  unfold closeS
  rw [if_pos ⟨h1, h⟩]
theorem cutL_last {L : List Str} {a b : Nat} (hab : a < b) (hb : b ≤ L.length) (hne : ∀ x ∈ L, x ≠ []) : (cutL L a b).flatten ≠ [] ∧ (cutL L a b).flatten.getLast? = (L[b - 1]'(by omega)).getLast? := by
  have hl := cutL_len L a b (by omega) hb
  have hmem : ∀ x ∈ cutL L a b, x ≠ [] := fun x hx => hne x (by
    unfold cutL at hx
    exact List.mem_of_mem_drop (List.mem_of_mem_take hx))
  obtain ⟨h1, h2⟩ := flat_last (cutL L a b) hmem (by omega)
  refine ⟨h1, ?_⟩
  rw [h2, cutL_get L a b ((cutL L a b).length - 1) (by omega) (by omega)]
  congr 2
  omega
set_option maxRecDepth 100000 in
set_option maxHeartbeats 2000000 in
theorem dclosed_any {w : World} {v u : Value} {l : Str} {L : List Str} (h : OwnB w v l) (hL : OwnL w u L) (hne : ∀ x ∈ L, x ≠ []) (a b : Nat) (hab : a ≤ b) (hb : b ≤ L.length) (hl : l.length ≤ 1000000) (hLl : L.length ≤ 1000000) (hs : L.flatten.length ≤ 1000000) :
    Calls Try.prog 60 #[v, u, .int .i64 a, .int .i64 b] w fun e w' => ∃ v', e = .returned v' ∧ BI w v v' (l ++ closeS (cutL L a b).flatten) w' := by
  have C1 := hide (daddAll_any h hL a b L.length rfl hab hb hl hLl hs)
  have Hh := hide h
  have HL := hide hL
  obtain ⟨ua, uc, rfl⟩ := ownsRow_shape hL
  rw [List.length_map] at HL C1 ⊢
  have hfl : (cutL L a b).flatten.length ≤ 1000000 := by
    have := flat_take L a b hab
    have := flat_take_le L b
    omega
  by_cases hlt : a < b
  · obtain ⟨hn0, hlast⟩ := cutL_last hlt hb hne
    have t1 : decide ((a : Int) < (b : Int)) = true := decide_eq_true (by omega)
    have t1n : decide (a < b) = true := decide_eq_true (by omega)
    obtain ⟨m, c, hsz, hm, hx, hbt⟩ := last_byte (L[b - 1]'(by omega)) (hne _ (List.getElem_mem (by omega : b - 1 < L.length)))
    rw [hx] at hlast
    obtain ⟨j0, hj0, hy0, hy1, hy2⟩ := info_parts Try.dinfoU8
    have i1 : (0 : Int) ≤ (b : Int) - 1 := by omega
    have i2 : (b : Int) - 1 < (L.length : Int) := by omega
    have i3 : ((b : Int) - 1) = ((b - 1 : Nat) : Int) := by omega
    have hmb : m ≤ 1000000 := by
      have := mem_flat_len (List.getElem_mem (by omega : b - 1 < L.length))
      omega
    have HN0 := hide hn0
    have Hlast := hide hlast
    have hg := get_bt (sb (L[b - 1]'(by omega)))
    clear h hL hn0 hlast hx hm
    go_enter Try.func60, Try.ntmps60
    go_wp2_with fail
    refine (unhide C1).mono ?_
    rintro e w1 ⟨v1, rfl, hB1⟩
    have hLr := (unhide HL).byt (unhide Hh) hB1
    rcases hLr.form with ⟨_, e0⟩ | ⟨g, cap, e0, _, _, hgl, hcell⟩
    · rw [e0] at hb; simp at hb; omega
    · obtain ⟨rfl, rfl⟩ : ua = some ⟨g, 0, none⟩ ∧ uc = cap := by simpa using e0
      have c0 := hcell (b - 1) (by omega)
      have HB1 := hide hB1
      clear hcell hLr e0 hB1 C1 HL Hh hne
      generalize sb (L[b - 1]'(by omega)) = s at *
      generalize hbb : b - 1 = bb at *
      have Hbb := hide hbb
      clear hbb
      by_cases h10 : c = 10
      · have e2 : (bt s m != 10) = false := by rw [hbt, h10]; rfl
        have Hcl := hide (closeS_nl (by rw [unhide Hlast, h10]))
        clear h10 hbt
        go_wp2_with fail
        go_ret
        rw [unhide Hcl]
        exact ⟨_, rfl, unhide HB1⟩
      · have e2 : (bt s m != 10) = true := by
          rw [hbt]
          have := ne_byte (c := c) (n := 10) (by omega)
          rw [decide_eq_false (by simpa using h10)] at this
          simpa using this
        have Hcl := hide (closeS_add (unhide HN0) (by rw [unhide Hlast]; simpa using h10))
        have own1 : w1.ownsRow 0 5 1 _ _ _ := (unhide HB1).own
        clear h10 hbt
        generalize hA : l ++ (cutL L a b).flatten = A at *
        have hAl : A.length ≤ 2000000 := by rw [← hA, List.length_append]; omega
        have HA := hide hA
        clear hA
        go_wp2_with (at_builtin; refine wpList_append2 _ rfl _ _ 93 rfl 5 j0 _ 1 1 Try.underlying93 hj0 hy0 hy1 hy2 rfl (by decide) _ _ _ rfl (own1.alloc _) ⟨w1.heap.size, 0, none⟩ 1 1 [.int .u8 10] rfl rfl ?c1 ?c2 ?c3 ?c4 ?_)
        try (case c1 => exact news_ok _ _ _ _ rfl)
        case c2 => first | exact rfl | (intro u hu; simp at hu; rcases hu with rfl; rfl)
        case c3 => unfold maxLen; omega
        case c4 => omega
        intro v' w' hown hgrow hwhere
        have hN := (unhide HB1).step (m := A ++ [10]) (v' := v') (w' := w') (by
          have e3 : u8V A ++ [.int .u8 10] = u8V (A ++ [10]) := by simp [u8V]
          rw [e3] at hown
          unfold OwnB
          rw [List.length_append]
          exact hown) (fun y hy => by
            rcases hwhere y hy with e | e
            · exact .inl e
            · exact .inr (by omega)) (own_only hgrow)
        have HN := hide hN
        clear hown hgrow hwhere own1 hN
        go_wp2_with fail
        go_ret
        rw [unhide Hcl, ← List.append_assoc, unhide HA]
        exact ⟨_, rfl, unhide HN⟩
  · have ea : a = b := by omega
    subst ea
    have t1 : decide ((a : Int) < (a : Int)) = false := decide_eq_false (by omega)
    rw [cutL_same] at C1 ⊢
    have e0 : closeS ([] : List Str).flatten = ([] : List Str).flatten := closeS_nil
    rw [e0]
    generalize l ++ ([] : List Str).flatten = A at *
    clear h hL hfl hlt e0 hne
    go_enter Try.func60, Try.ntmps60
    go_wp2_with fail
    refine (unhide C1).mono ?_
    rintro e w1 ⟨v1, rfl, hB1⟩
    have HB1 := hide hB1
    clear hB1
    go_wp2_with fail
    go_ret
    exact ⟨_, rfl, unhide HB1⟩
end Go.Proofs.Qxb6500416a
