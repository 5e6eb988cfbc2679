/-
  OWN WORK. TABLE: the fields of a raw string.
-/
import Derived.Test.Qxb6500414aGreatEVal
import Derived.Laws.AppendOwn
namespace Go.Proofs.Qxb6500414aGreat
open Go.RowKit Go.PlainAid
set_option linter.unusedSimpArgs false
set_option linter.unusedVariables false

/-- n bytes behind place i, big end first. -/
def beF (t : ByteArray) (i : Nat) : Nat → Nat
  | 0 => 0
  | j + 1 => beF t i j * 256 + byteAt t (i + (j + 1))
theorem beF_lt (t : ByteArray) (i : Nat) : ∀ j, beF t i j < 256 ^ j
  | 0 => by simp [beF]
  | j + 1 => by
    have h1 := beF_lt t i j
    have h2 := byteAt_lt t (i + (j + 1))
    rw [Nat.pow_succ]
    unfold beF
    omega
/-- The field at place i, and where it ends. -/
def fstep (t : ByteArray) (i : Nat) : Option (Vl × Nat) :=
  if byteAt t i = 105 ∧ i + 9 ≤ t.size then some (vI (wrap64 (beF t i 8)), i + 9)
  else if byteAt t i = 115 ∧ i + 2 ≤ t.size ∧ i + 2 + byteAt t (i + 1) ≤ t.size then some (vS (t.extract (i + 2) (i + 2 + byteAt t (i + 1))), i + 2 + byteAt t (i + 1))
  else if byteAt t i = 83 ∧ i + 9 ≤ t.size ∧ i + 9 + beF t i 8 ≤ t.size then some (vS (t.extract (i + 9) (i + 9 + beF t i 8)), i + 9 + beF t i 8)
  else none
def fieldsP (t : ByteArray) : Nat → Nat → List Vl
  | 0, _ => []
  | m + 1, i => if i < t.size then (match fstep t i with | some x => x.1 :: fieldsP t m x.2 | none => []) else []
theorem fieldsP_len (t : ByteArray) : ∀ m i, (fieldsP t m i).length ≤ m
  | 0, i => by simp [fieldsP]
  | m + 1, i => by
    unfold fieldsP
    split
    · cases h : fstep t i with
      | none => simp
      | some x => simp; exact fieldsP_len t m x.2
    · simp
theorem wrap64_in (x : Int) : In64 (wrap64 x) := by unfold In64 wrap64; omega
theorem fstep_wf {t : ByteArray} {i : Nat} {x : Vl × Nat} (h : fstep t i = some x) : x.1.wf := by
  unfold fstep at h
  split at h
  · cases h
    exact .inl ⟨rfl, rfl, wrap64_in _⟩
  · split at h
    · cases h
      exact .inr ⟨rfl, rfl⟩
    · split at h
      · cases h
        exact .inr ⟨rfl, rfl⟩
      · cases h
theorem fieldsP_wf (t : ByteArray) : ∀ m i, ∀ v ∈ fieldsP t m i, v.wf
  | 0, i => by simp [fieldsP]
  | m + 1, i => by
    unfold fieldsP
    split
    · cases h : fstep t i with
      | none => simp
      | some x =>
        intro v hv
        simp at hv
        rcases hv with rfl | hv
        · exact fstep_wf h
        · exact fieldsP_wf t m x.2 v hv
    · simp
/-- A row that grows. -/
structure GR (ty : TypeId) (k : Nat) (w : World) (ov : Value) (n : Nat) (cs : List Value) (wr : World) : Prop where
  own : wr.ownsRow 0 ty k ov n cs
  hb : ∀ y, ov.ownBlock = some y → w.heap.size ≤ y
  ho : Only (fun _ => False) w wr
theorem GR.nil (ty : TypeId) (k : Nat) (w : World) : GR ty k w (.slice none 0 0) 0 [] w := ⟨World.ownsRow_nil _ _ _ _, fun y hy => by simp [Value.ownBlock] at hy, Only.refl _ _⟩
theorem GR.far {ty : TypeId} {k : Nat} {w wr w2 : World} {ov : Value} {n : Nat} {cs : List Value} (h : GR ty k w ov n cs wr) (o : Only (fun _ => False) wr w2) : GR ty k w ov n cs w2 :=
  ⟨ownsRow_keep h.own o (fun _ _ e => e), h.hb, h.ho.trans o (fun _ _ e => e)⟩
theorem GR.push {ty : TypeId} {k : Nat} {w : World} {ov v' : Value} {m : Nat} {cs es : List Value} {wr w' : World} {o : Obj} {n : Nat} (h : GR ty k w ov m cs wr) (hown : w'.ownsRow 0 ty k v' n (cs ++ es)) 
    (hgrow : (wr.alloc o).grownBy w' ov.ownBlock) (hwhere : ∀ k, v'.ownBlock = some k → ov.ownBlock = some k ∨ k = wr.heap.size + 1) : GR ty k w v' n (cs ++ es) w' := by
  have hs := h.ho.size
  refine ⟨hown, fun y hy => ?_, (h.ho.alloc _).grown hgrow (fun b hb hlt => by have := h.hb b hb; omega)⟩
  rcases hwhere y hy with e | e
  · exact h.hb y e
  · omega
theorem Tryz.infoEVal : (Tryz.prog.info? 106).map (fun i => (i.zero, i.size, i.bytes)) = some (some (.agg #[.bool false, .int .i64 0, .string ⟨#[]⟩]), 3, 32) := by kernel_rfl
/-- A row of values that grows. -/
def GV (w : World) (ov : Value) (l : List Vl) (wr : World) : Prop := GR 106 3 w ov l.length (vcs l) wr
theorem beF_step {t : ByteArray} {i n : Nat} : beF t i (n + 1) = beF t i n * 256 + byteAt t (i + (n + 1)) := rfl
theorem fieldsP_stop {t : ByteArray} {m i : Nat} (h : i < t.size → fstep t i = none) : fieldsP t m i = [] := by
  cases m with
  | zero => rfl
  | succ k =>
    unfold fieldsP
    split
    · rename_i c
      rw [h c]
    · rfl
theorem fieldsP_go {t : ByteArray} {m i : Nat} {x : Vl × Nat} (hm : 0 < m) (hi : i < t.size) (h : fstep t i = some x) : fieldsP t m i = x.1 :: fieldsP t (m - 1) x.2 := by
  cases m with
  | zero => omega
  | succ k =>
    have : fieldsP t (k + 1) i = if i < t.size then (match fstep t i with | some x => x.1 :: fieldsP t k x.2 | none => []) else [] := rfl
    rw [this, if_pos hi, h]
    rfl
theorem fields_next {t : ByteArray} {m i : Nat} {l : List Vl} {x : Vl × Nat} (hF : fieldsP t m 0 = l ++ fieldsP t (m - l.length) i) (hl : l.length < m) (hi : i < t.size) (h : fstep t i = some x) : fieldsP t m 0 = (l ++ [x.1]) ++ fieldsP t (m - (l ++ [x.1]).length) x.2 := by
  rw [hF, fieldsP_go (by omega) hi h]
  simp only [List.append_assoc, List.cons_append, List.nil_append, List.length_append, List.length_cons, List.length_nil]
  rw [show m - (l.length + (0 + 1)) = m - l.length - 1 by omega]
theorem GV.push {w : World} {ov v' : Value} {l : List Vl} {wr w' : World} {o : Obj} {n : Nat} (h : GV w ov l wr) (x : Vl) (hown : w'.ownsRow 0 106 3 v' n (vcs l ++ [.bool x.str, .int .i64 x.i, .string x.s])) (hn : n = l.length + 1)
    (hgrow : (wr.alloc o).grownBy w' ov.ownBlock) (hwhere : ∀ k, v'.ownBlock = some k → ov.ownBlock = some k ∨ k = wr.heap.size + 1) : GV w v' (l ++ [x]) w' := by
  subst hn
  have := GR.push h hown hgrow hwhere
  unfold GV
  rw [vcs_app, List.length_append]
  exact this
set_option maxRecDepth 100000 in
set_option maxHeartbeats 4000000 in
theorem efields_any (t : ByteArray) (ht : t.size ≤ maxLen) (m : Nat) (hm : m ≤ 100) (w : World) : Calls Tryz.prog 122 #[.string t, .int .i64 m] w fun e w' => ∃ v, e = .returned v ∧ GV w v (fieldsP t m 0) w' := by
  obtain ⟨i0, hi0, hz0, hz1, hz2⟩ := info_parts Tryz.infoEVal
  have htI : (t.size : Int) ≤ 9223372036854775807 := by unfold maxLen at ht; omega
  have mI : (m : Int) ≤ 100 := by omega
  go_enter Tryz.func122, Tryz.ntmps122
  go_upto_region 3 with fail
  go_loopw [5, 6] (fun rv jv wr => ∃ (i : Nat) (l : List Vl), jv = .int .i64 i ∧ i ≤ t.size ∧ l.length ≤ m ∧ GV w rv l wr ∧ fieldsP t m 0 = l ++ fieldsP t (m - l.length) i) (fun _ jv _ => t.size - (intOf jv).toNat)
  case atStart => exact ⟨0, [], rfl, Nat.zero_le _, Nat.zero_le _, GR.nil _ _ _, rfl⟩
  case round =>
    obtain ⟨i, l, rfl, hi, hl, hG, hF⟩ := hrel
    obtain ⟨ra, rc, rfl⟩ := ownsRow_shape hG.own
    have lI : (l.length : Int) ≤ 100 := by omega
    by_cases hgo : i < t.size
    · have a1 : decide ((i : Int) < (t.size : Int)) = true := decide_eq_true (by omega)
      have a1p : (i : Int) < (t.size : Int) := by omega
      by_cases hlm : l.length < m
      · have a2 : decide ((l.length : Int) < (m : Int)) = true := decide_eq_true (by omega)
        have hb : (t[i].toNat : Int) = ((byteAt t i : Nat) : Int) := byteAt_idx t i hgo
        have HH := hide (And.intro hG hF)
        have own1 : wr.ownsRow 0 106 3 (.slice ra l.length rc) l.length (vcs l) := hG.own
        have HPush := hide (fun (x : Vl) (v' : Value) (w' : World) o n hown hn hgrow hwh => GV.push (o := o) (n := n) (v' := v') (w' := w') hG x hown hn hgrow hwh)
        have HNext := hide (fun (x : Vl × Nat) => fields_next (x := x) hF hlm hgo)
        clear hG hF
        by_cases cI1 : byteAt t i = 105
        · have d1 : (((byteAt t i : Nat) : Int) == 105) = true := by rw [cI1]; rfl
          by_cases c9 : i + 9 ≤ t.size
          · have d2 : decide ((t.size : Int) - (i : Int) ≥ 9) = true := decide_eq_true (by omega)
            have d2' : decide ((9 : Int) ≤ (t.size : Int) - (i : Int)) = true := decide_eq_true (by omega)
            have c9I : (i : Int) + 9 ≤ (t.size : Int) := by omega
            have hst : fstep t i = some (vI (wrap64 (beF t i 8)), i + 9) := by unfold fstep; rw [if_pos ⟨cI1, c9⟩]
            have HX := hide (unhide HNext _ hst)
            go_upto_region 7 with fail
            go_loop [7, 8] (fun uv jv => ∃ n : Nat, 1 ≤ n ∧ n ≤ 9 ∧ jv = .int .i64 (n : Int) ∧ uv = .int .u64 ((beF t i (n - 1) : Nat) : Int)) (fun _ jv => 10 - (intOf jv).toNat)
            case atStart => exact ⟨1, by omega, by omega, rfl, rfl⟩
            case round =>
              obtain ⟨n, hn0, hn, rfl, rfl⟩ := hrel
              by_cases h8 : n < 9
              · have f1 : decide ((n : Int) ≤ 8) = true := decide_eq_true (by omega)
                have f1p : (n : Int) ≤ 8 := by omega
                obtain ⟨p, hp⟩ : ∃ p, p = i + n := ⟨_, rfl⟩
                have qi : p < t.size := by omega
                have qI : (p : Int) < (t.size : Int) := by omega
                have qe : (i : Int) + (n : Int) = (p : Int) := by omega
                have hb2 : (t[p].toNat : Int) = ((byteAt t p : Nat) : Int) := byteAt_idx t p qi
                have hbl := byteAt_lt t p
                have hV := beF_lt t i (n - 1)
                have hV2 : beF t i (n - 1) < 72057594037927936 := Nat.lt_of_lt_of_le hV (by
                  have : (256 : Nat) ^ (n - 1) ≤ 256 ^ 7 := Nat.pow_le_pow_right (by omega) (by omega)
                  simpa using this)
                have hnext : beF t i n = beF t i (n - 1) * 256 + byteAt t p := by
                  have := beF_step (t := t) (i := i) (n := n - 1)
                  rw [show n - 1 + 1 = n by omega, ← hp] at this
                  exact this
                clear hV hp
                generalize byteAt t p = b at *
                generalize beF t i (n - 1) = V at *
                have ho := or8 (x := V) hbl hV2
                have HN := hide hnext
                have vI' : (V : Int) < 72057594037927936 := by omega
                have bI : (b : Int) < 256 := by omega
                clear hnext own1
                go_wp2_with fail
                exact ⟨⟨n + 1, by omega, by omega, by go_num, by rw [show n + 1 - 1 = n from rfl, unhide HN]; simp⟩, by simp [intOf]; omega⟩
              · obtain rfl : n = 9 := by omega
                have f1 : decide (((9 : Nat) : Int) ≤ 8) = false := decide_eq_false (by omega)
                rw [show 9 - 1 = 8 from rfl]
                have hw : IntKind.i64.wrap ((beF t i 8 : Nat) : Int) = wrap64 ((beF t i 8 : Nat) : Int) := by rw [IntKind.wrap_i64]; unfold wrap64; first | rfl | omega
                have C1 := hide (fun w => eInt_any (wrap64 ((beF t i 8 : Nat) : Int)) w)
                generalize wrap64 ((beF t i 8 : Nat) : Int) = V at *
                generalize ((beF t i 8 : Nat) : Int) = V0 at *
                have i9 : IntKind.i64.wrap ((i : Int) + 9) = ((i + 9 : Nat) : Int) := by rw [IntWalk.i64_in] <;> omega
                go_wp2_with fail
                refine (unhide C1 wr).mono ?_
                rintro e w2 ⟨rfl, o2⟩
                unfold vlA
                have HG3 := GR.far (unhide HH).1 o2
                have HOW := hide HG3.own
                have HG2 := hide (fun (x : Vl) (v' : Value) (w' : World) o n hown hn hgrow hwh => GV.push (o := o) (n := n) (v' := v') (w' := w') HG3 x hown hn hgrow hwh)
                clear HG3 o2
                go_wp2_with (at_builtin; refine wpList_append2 _ rfl _ _ 47 rfl 106 i0 _ 3 32 Tryz.underlying47 hi0 hz0 hz1 hz2 rfl (by decide) _ _ _ rfl ((unhide HOW).alloc _) ⟨w2.heap.size, 0, none⟩ 1 1 [.bool (vI V).str, .int .i64 (vI V).i, .string (vI V).s] rfl rfl ?c1 ?c2 ?c3 ?c4 ?_)
                case c1 => exact news_ok _ _ _ _ rfl
                case c2 => intro u hu; simp at hu; rcases hu with rfl | rfl | rfl <;> rfl
                case c3 => unfold maxLen; omega
                case c4 => omega
                intro v' w' hown hgrow hwhere
                have HN0 := unhide HG2 (vI V) v' w' _ _ hown rfl hgrow hwhere
                have HN := hide HN0
                clear hown hgrow hwhere HG2 HN0 HOW
                go_wp2_with fail
                go_roundw
                case rel => exact ⟨i + 9, l ++ [vI V], by go_num, by omega, by simp; omega, unhide HN, unhide HX⟩
                case measure => simp [intOf]; omega
          · have d2 : decide ((t.size : Int) - (i : Int) ≥ 9) = false := decide_eq_false (by omega)
            have d2' : decide ((9 : Int) ≤ (t.size : Int) - (i : Int)) = false := decide_eq_false (by omega)
            have hno : fstep t i = none := by unfold fstep; rw [if_neg (fun c => by omega), if_neg (fun c => by omega), if_neg (fun c => by omega)]
            have HQ := hide (show GV w (.slice ra l.length rc) (fieldsP t m 0) wr from by rw [(unhide HH).2, fieldsP_stop (fun _ => hno), List.append_nil]; exact (unhide HH).1)
            clear HH HPush HNext own1
            go_wp2_with fail
            go_ret
            exact ⟨_, rfl, unhide HQ⟩
        · have d1 : (((byteAt t i : Nat) : Int) == 105) = false := by simp; omega
          by_cases cI2 : byteAt t i = 115
          · have d3 : (((byteAt t i : Nat) : Int) == 115) = true := by rw [cI2]; rfl
            by_cases c2 : i + 2 ≤ t.size
            · have d4 : decide ((t.size : Int) - (i : Int) ≥ 2) = true := decide_eq_true (by omega)
              have d4' : decide ((2 : Int) ≤ (t.size : Int) - (i : Int)) = true := decide_eq_true (by omega)
              have q1 : i + 1 < t.size := by omega
              have q1I : (i : Int) + 1 < (t.size : Int) := by omega
              have hb1 : (t[i + 1].toNat : Int) = ((byteAt t (i + 1) : Nat) : Int) := byteAt_idx t (i + 1) q1
              have hbl := byteAt_lt t (i + 1)
              by_cases c3 : i + 2 + byteAt t (i + 1) ≤ t.size
              · have d5 : decide ((t.size : Int) - (i : Int) - 2 ≥ ((byteAt t (i + 1) : Nat) : Int)) = true := decide_eq_true (by omega)
                have d5' : decide (((byteAt t (i + 1) : Nat) : Int) ≤ (t.size : Int) - (i : Int) - 2) = true := decide_eq_true (by omega)
                have hst : fstep t i = some (vS (t.extract (i + 2) (i + 2 + byteAt t (i + 1))), i + 2 + byteAt t (i + 1)) := by unfold fstep; rw [if_neg (fun c => by omega), if_pos ⟨cI2, c2, c3⟩]
                have HX := hide (unhide HNext _ hst)
                clear hst own1 HNext HPush
                have C1 := hide (fun w => eStr_any (t.extract (i + 2) (i + 2 + byteAt t (i + 1))) w)
                generalize byteAt t (i + 1) = b at *
                have c3I : (i : Int) + 2 + (b : Int) ≤ (t.size : Int) := by omega
                have bI : (b : Int) < 256 := by omega
                go_wp2_with fail
                refine (unhide C1 wr).mono ?_
                rintro e w2 ⟨rfl, o2⟩
                unfold vlA
                have HG3 := GR.far (unhide HH).1 o2
                have HOW := hide HG3.own
                have HG2 := hide (fun (x : Vl) (v' : Value) (w' : World) o n hown hn hgrow hwh => GV.push (o := o) (n := n) (v' := v') (w' := w') HG3 x hown hn hgrow hwh)
                clear HG3 o2
                go_wp2_with (at_builtin; refine wpList_append2 _ rfl _ _ 47 rfl 106 i0 _ 3 32 Tryz.underlying47 hi0 hz0 hz1 hz2 rfl (by decide) _ _ _ rfl ((unhide HOW).alloc _) ⟨w2.heap.size, 0, none⟩ 1 1 [.bool (vS (t.extract (i + 2) (i + 2 + b))).str, .int .i64 (vS (t.extract (i + 2) (i + 2 + b))).i, .string (vS (t.extract (i + 2) (i + 2 + b))).s] rfl rfl ?c1 ?c2 ?c3 ?c4 ?_)
                case c1 => exact news_ok _ _ _ _ rfl
                case c2 => intro u hu; simp at hu; rcases hu with rfl | rfl | rfl <;> rfl
                case c3 => unfold maxLen; omega
                case c4 => omega
                intro v' w' hown hgrow hwhere
                have HN0 := unhide HG2 (vS (t.extract (i + 2) (i + 2 + b))) v' w' _ _ hown rfl hgrow hwhere
                have HN := hide HN0
                clear hown hgrow hwhere HG2 HN0 HOW
                go_wp2_with fail
                go_roundw
                case rel => exact ⟨i + 2 + b, l ++ [vS (t.extract (i + 2) (i + 2 + b))], by go_num, by omega, by simp; omega, unhide HN, by first | exact unhide HX | simpa using unhide HX⟩
                case measure => simp [intOf]; omega
              · have d5 : decide ((t.size : Int) - (i : Int) - 2 ≥ ((byteAt t (i + 1) : Nat) : Int)) = false := decide_eq_false (by omega)
                have d5' : decide (((byteAt t (i + 1) : Nat) : Int) ≤ (t.size : Int) - (i : Int) - 2) = false := decide_eq_false (by omega)
                have hno : fstep t i = none := by unfold fstep; rw [if_neg (fun c => by omega), if_neg (fun c => by omega), if_neg (fun c => by omega)]
                have HQ := hide (show GV w (.slice ra l.length rc) (fieldsP t m 0) wr from by rw [(unhide HH).2, fieldsP_stop (fun _ => hno), List.append_nil]; exact (unhide HH).1)
                clear HH HPush HNext own1
                go_wp2_with fail
                go_ret
                exact ⟨_, rfl, unhide HQ⟩
            · have d4 : decide ((t.size : Int) - (i : Int) ≥ 2) = false := decide_eq_false (by omega)
              have d4' : decide ((2 : Int) ≤ (t.size : Int) - (i : Int)) = false := decide_eq_false (by omega)
              have hno : fstep t i = none := by unfold fstep; rw [if_neg (fun c => by omega), if_neg (fun c => by omega), if_neg (fun c => by omega)]
              have HQ := hide (show GV w (.slice ra l.length rc) (fieldsP t m 0) wr from by rw [(unhide HH).2, fieldsP_stop (fun _ => hno), List.append_nil]; exact (unhide HH).1)
              clear HH HPush HNext own1
              go_wp2_with fail
              go_ret
              exact ⟨_, rfl, unhide HQ⟩
          · have d3 : (((byteAt t i : Nat) : Int) == 115) = false := by simp; omega
            by_cases cI3 : byteAt t i = 83
            · have d6 : (((byteAt t i : Nat) : Int) == 83) = true := by rw [cI3]; rfl
              by_cases c9 : i + 9 ≤ t.size
              · have d2 : decide ((t.size : Int) - (i : Int) ≥ 9) = true := decide_eq_true (by omega)
                have d2' : decide ((9 : Int) ≤ (t.size : Int) - (i : Int)) = true := decide_eq_true (by omega)
                have c9I : (i : Int) + 9 ≤ (t.size : Int) := by omega
                go_upto_region 19 with fail
                go_loop [10, 11] (fun uv jv => ∃ n : Nat, 1 ≤ n ∧ n ≤ 9 ∧ jv = .int .i64 (n : Int) ∧ uv = .int .u64 ((beF t i (n - 1) : Nat) : Int)) (fun _ jv => 10 - (intOf jv).toNat)
                case atStart => exact ⟨1, by omega, by omega, rfl, rfl⟩
                case round =>
                  obtain ⟨n, hn0, hn, rfl, rfl⟩ := hrel
                  by_cases h8 : n < 9
                  · have f1 : decide ((n : Int) ≤ 8) = true := decide_eq_true (by omega)
                    have f1p : (n : Int) ≤ 8 := by omega
                    obtain ⟨p, hp⟩ : ∃ p, p = i + n := ⟨_, rfl⟩
                    have qi : p < t.size := by omega
                    have qI : (p : Int) < (t.size : Int) := by omega
                    have qe : (i : Int) + (n : Int) = (p : Int) := by omega
                    have hb2 : (t[p].toNat : Int) = ((byteAt t p : Nat) : Int) := byteAt_idx t p qi
                    have hbl := byteAt_lt t p
                    have hV := beF_lt t i (n - 1)
                    have hV2 : beF t i (n - 1) < 72057594037927936 := Nat.lt_of_lt_of_le hV (by
                      have : (256 : Nat) ^ (n - 1) ≤ 256 ^ 7 := Nat.pow_le_pow_right (by omega) (by omega)
                      simpa using this)
                    have hnext : beF t i n = beF t i (n - 1) * 256 + byteAt t p := by
                      have := beF_step (t := t) (i := i) (n := n - 1)
                      rw [show n - 1 + 1 = n by omega, ← hp] at this
                      exact this
                    clear hV hp
                    generalize byteAt t p = b at *
                    generalize beF t i (n - 1) = V at *
                    have ho := or8 (x := V) hbl hV2
                    have HN := hide hnext
                    have vI' : (V : Int) < 72057594037927936 := by omega
                    have bI : (b : Int) < 256 := by omega
                    clear hnext own1
                    go_wp2_with fail
                    exact ⟨⟨n + 1, by omega, by omega, by go_num, by rw [show n + 1 - 1 = n from rfl, unhide HN]; simp⟩, by simp [intOf]; omega⟩
                  · obtain rfl : n = 9 := by omega
                    have f1 : decide (((9 : Nat) : Int) ≤ 8) = false := decide_eq_false (by omega)
                    rw [show 9 - 1 = 8 from rfl]
                    have rI : IntKind.u64.wrap ((t.size : Int) - (i : Int) - 9) = (t.size : Int) - (i : Int) - 9 := by rw [IntWalk.u64_in] <;> omega
                    by_cases c3 : i + 9 + beF t i 8 ≤ t.size
                    · have d5 : decide (((beF t i 8 : Nat) : Int) > (t.size : Int) - (i : Int) - 9) = false := decide_eq_false (by omega)
                      have d5' : decide ((t.size : Int) - (i : Int) - 9 < ((beF t i 8 : Nat) : Int)) = false := decide_eq_false (by omega)
                      have hst : fstep t i = some (vS (t.extract (i + 9) (i + 9 + beF t i 8)), i + 9 + beF t i 8) := by unfold fstep; rw [if_neg (fun c => by omega), if_neg (fun c => by omega), if_pos ⟨cI3, c9, c3⟩]
                      have HX := hide (unhide HNext _ hst)
                      clear hst own1 HNext HPush
                      have C1 := hide (fun w => eStr_any (t.extract (i + 9) (i + 9 + beF t i 8)) w)
                      generalize beF t i 8 = b at *
                      have c3I : (i : Int) + 9 + (b : Int) ≤ (t.size : Int) := by omega
                      have wb : IntKind.i64.wrap (b : Int) = (b : Int) := by rw [IntWalk.i64_in] <;> omega
                      go_wp2_with fail
                      refine (unhide C1 wr).mono ?_
                      rintro e w2 ⟨rfl, o2⟩
                      unfold vlA
                      have HG3 := GR.far (unhide HH).1 o2
                      have HOW := hide HG3.own
                      have HG2 := hide (fun (x : Vl) (v' : Value) (w' : World) o n hown hn hgrow hwh => GV.push (o := o) (n := n) (v' := v') (w' := w') HG3 x hown hn hgrow hwh)
                      clear HG3 o2
                      go_wp2_with (at_builtin; refine wpList_append2 _ rfl _ _ 47 rfl 106 i0 _ 3 32 Tryz.underlying47 hi0 hz0 hz1 hz2 rfl (by decide) _ _ _ rfl ((unhide HOW).alloc _) ⟨w2.heap.size, 0, none⟩ 1 1 [.bool (vS (t.extract (i + 9) (i + 9 + b))).str, .int .i64 (vS (t.extract (i + 9) (i + 9 + b))).i, .string (vS (t.extract (i + 9) (i + 9 + b))).s] rfl rfl ?c1 ?c2 ?c3 ?c4 ?_)
                      case c1 => exact news_ok _ _ _ _ rfl
                      case c2 => intro u hu; simp at hu; rcases hu with rfl | rfl | rfl <;> rfl
                      case c3 => unfold maxLen; omega
                      case c4 => omega
                      intro v' w' hown hgrow hwhere
                      have HN0 := unhide HG2 (vS (t.extract (i + 9) (i + 9 + b))) v' w' _ _ hown rfl hgrow hwhere
                      have HN := hide HN0
                      clear hown hgrow hwhere HG2 HN0 HOW
                      go_wp2_with fail
                      go_roundw
                      case rel => exact ⟨i + 9 + b, l ++ [vS (t.extract (i + 9) (i + 9 + b))], by go_num, by omega, by simp; omega, unhide HN, by first | exact unhide HX | simpa using unhide HX⟩
                      case measure => simp [intOf]; omega
                    · have d5 : decide (((beF t i 8 : Nat) : Int) > (t.size : Int) - (i : Int) - 9) = true := decide_eq_true (by omega)
                      have d5' : decide ((t.size : Int) - (i : Int) - 9 < ((beF t i 8 : Nat) : Int)) = true := decide_eq_true (by omega)
                      have hno : fstep t i = none := by unfold fstep; rw [if_neg (fun c => by omega), if_neg (fun c => by omega), if_neg (fun c => by omega)]
                      have HQ := hide (show GV w (.slice ra l.length rc) (fieldsP t m 0) wr from by rw [(unhide HH).2, fieldsP_stop (fun _ => hno), List.append_nil]; exact (unhide HH).1)
                      clear HH HPush HNext own1
                      go_wp2_with fail
                      go_ret
                      exact ⟨_, rfl, unhide HQ⟩
              · have d2 : decide ((t.size : Int) - (i : Int) ≥ 9) = false := decide_eq_false (by omega)
                have d2' : decide ((9 : Int) ≤ (t.size : Int) - (i : Int)) = false := decide_eq_false (by omega)
                have hno : fstep t i = none := by unfold fstep; rw [if_neg (fun c => by omega), if_neg (fun c => by omega), if_neg (fun c => by omega)]
                have HQ := hide (show GV w (.slice ra l.length rc) (fieldsP t m 0) wr from by rw [(unhide HH).2, fieldsP_stop (fun _ => hno), List.append_nil]; exact (unhide HH).1)
                clear HH HPush HNext own1
                go_wp2_with fail
                go_ret
                exact ⟨_, rfl, unhide HQ⟩
            · have d6 : (((byteAt t i : Nat) : Int) == 83) = false := by simp; omega
              have hno : fstep t i = none := by unfold fstep; rw [if_neg (fun c => by omega), if_neg (fun c => by omega), if_neg (fun c => by omega)]
              have HQ := hide (show GV w (.slice ra l.length rc) (fieldsP t m 0) wr from by rw [(unhide HH).2, fieldsP_stop (fun _ => hno), List.append_nil]; exact (unhide HH).1)
              clear HH HPush HNext own1
              go_wp2_with fail
              go_ret
              exact ⟨_, rfl, unhide HQ⟩
      · have a2 : decide ((l.length : Int) < (m : Int)) = false := decide_eq_false (by omega)
        have HQ := hide (show GV w (.slice ra l.length rc) (fieldsP t m 0) wr from by rw [hF, show m - l.length = 0 by omega, show fieldsP t 0 i = [] from rfl, List.append_nil]; exact hG)
        clear hG hF
        go_wp2_with fail
        go_ret
        exact ⟨_, rfl, unhide HQ⟩
    · have a1 : decide ((i : Int) < (t.size : Int)) = false := decide_eq_false (by omega)
      have HQ := hide (show GV w (.slice ra l.length rc) (fieldsP t m 0) wr from by rw [hF, fieldsP_stop (fun c => absurd c hgo), List.append_nil]; exact hG)
      clear hG hF
      go_wp2_with fail
      go_ret
      exact ⟨_, rfl, unhide HQ⟩
end Go.Proofs.Qxb6500414aGreat
