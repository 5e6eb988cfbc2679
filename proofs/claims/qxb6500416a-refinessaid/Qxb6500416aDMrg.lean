/-
  OWN WORK. THE ENGINE: Merge.
-/
import Derived.Test.Qxb6500416aDPie
namespace Go.Proofs.Qxb6500416a
open Go.RowKit Go.PlainAid
set_option linter.unusedSimpArgs false
set_option linter.unusedVariables false

def mergeT (b o t : ByteArray) : Str := mgT (linesOf b) (linesOf o) (linesOf t) (mtc (linesOf b) (linesOf o) 0) (mtc (linesOf b) (linesOf t) 0) 0 0 0 0
def mergeN (b o t : ByteArray) : Nat := mgN (linesOf b) (linesOf o) (linesOf t) (mtc (linesOf b) (linesOf o) 0) (mtc (linesOf b) (linesOf t) 0) 0 0 0 0
theorem linesOf_ne (s : ByteArray) : ∀ x ∈ linesOf s, x ≠ [] := splitS_ne _
set_option maxRecDepth 100000 in
theorem dmerge_big {w : World} {e : Nat} (b o t : ByteArray) (h : 1024 < b.size ∨ 1024 < o.size ∨ 1024 < t.size) :
    Calls Try.prog 28 #[.pointer (some ⟨e, 0, none⟩), .string b, .string o, .string t] w fun x w' => x = .returned (.tuple #[.string ⟨#[]⟩, .int .i64 0, .int .i64 4]) ∧ w = w' := by
  by_cases h1 : 1024 < b.size
  · have a1 : decide ((1024 : Int) < (b.size : Int)) = true := decide_eq_true (by omega)
    go_enter Try.func28, Try.ntmps28
    go_wp2_with fail
    go_ret3
    exact ⟨rfl, rfl⟩
  · have a1 : decide ((1024 : Int) < (b.size : Int)) = false := decide_eq_false (by omega)
    by_cases h2 : 1024 < o.size
    · have a2 : decide ((1024 : Int) < (o.size : Int)) = true := decide_eq_true (by omega)
      go_enter Try.func28, Try.ntmps28
      go_wp2_with fail
      go_ret3
      exact ⟨rfl, rfl⟩
    · have a2 : decide ((1024 : Int) < (o.size : Int)) = false := decide_eq_false (by omega)
      have a3 : decide ((1024 : Int) < (t.size : Int)) = true := decide_eq_true (by omega)
      go_enter Try.func28, Try.ntmps28
      go_wp2_with fail
      go_ret3
      exact ⟨rfl, rfl⟩
theorem IntsR.byt {w : World} {v0 ov : Value} {l l0 : Str} {g : Nat} {X : List Int} {wr : World} (h : IntsR w g X) (h0 : OwnB w v0 l0) (hb : BI w v0 ov l wr) : IntsR wr g X := by
  have h0' : w.ownsRow 0 5 1 v0 l0.length (u8V l0) := h0
  exact h.keep hb.ho (fun e => ownsRow_ne h0' h (by decide) g e rfl)
theorem Has.x0 {w : World} {x : Nat} {a b c d e f v : Value} {t : TypeId} (h : Has w x #[a, b, c, d, e, f] t) : Has (w.setCell ⟨x, 0, none⟩ v) x #[v, b, c, d, e, f] t := by simpa using h.setCell 0 v
theorem Has.x1 {w : World} {x : Nat} {a b c d e f v : Value} {t : TypeId} (h : Has w x #[a, b, c, d, e, f] t) : Has (w.setCell ⟨x, 1, none⟩ v) x #[a, v, c, d, e, f] t := by simpa using h.setCell 1 v
theorem Has.x2 {w : World} {x : Nat} {a b c d e f v : Value} {t : TypeId} (h : Has w x #[a, b, c, d, e, f] t) : Has (w.setCell ⟨x, 2, none⟩ v) x #[a, b, v, d, e, f] t := by simpa using h.setCell 2 v
theorem Has.x3 {w : World} {x : Nat} {a b c d e f v : Value} {t : TypeId} (h : Has w x #[a, b, c, d, e, f] t) : Has (w.setCell ⟨x, 3, none⟩ v) x #[a, b, c, v, e, f] t := by simpa using h.setCell 3 v
theorem Has.x4 {w : World} {x : Nat} {a b c d e f v : Value} {t : TypeId} (h : Has w x #[a, b, c, d, e, f] t) : Has (w.setCell ⟨x, 4, none⟩ v) x #[a, b, c, d, v, f] t := by simpa using h.setCell 4 v
theorem Has.x5 {w : World} {x : Nat} {a b c d e f v : Value} {t : TypeId} (h : Has w x #[a, b, c, d, e, f] t) : Has (w.setCell ⟨x, 5, none⟩ v) x #[a, b, c, d, e, v] t := by simpa using h.setCell 5 v
section
variable {w : World} {e : Nat} {L : List Str} {F : Nat → Prop}
set_option maxRecDepth 100000 in
set_option maxHeartbeats 16000000 in
theorem dmerge_fit (h : EP w e L F) (b o t : ByteArray) (hb : b.size ≤ 1024) (ho : o.size ≤ 1024) (ht : t.size ≤ 1024) :
    Calls Try.prog 28 #[.pointer (some ⟨e, 0, none⟩), .string b, .string o, .string t] w fun x w' => x = .returned (.tuple #[.string (sb (mergeT b o t)), .int .i64 (mergeN b o t : Nat), .int .i64 0]) ∧ ∃ F' L', EP w' e L' F' ∧ (∀ k, F' k → F k ∨ w.heap.size ≤ k) ∧ Only F w w' := by
  have a1 : decide ((1024 : Int) < (b.size : Int)) = false := decide_eq_false (by omega)
  have a2 : decide ((1024 : Int) < (o.size : Int)) = false := decide_eq_false (by omega)
  have a3 : decide ((1024 : Int) < (t.size : Int)) = false := decide_eq_false (by omega)
  have lb := linesOf_len b
  have lo := linesOf_len o
  have lt := linesOf_len t
  have fb := linesOf_flat b
  have fo := linesOf_flat o
  have ft := linesOf_flat t
  have HN := hide (And.intro (linesOf_ne b) (And.intro (linesOf_ne o) (linesOf_ne t)))
  have HS := hide (And.intro (linesOf_size b) (And.intro (linesOf_size o) (linesOf_size t)))
  have C1 := hide (splitL_any b (by omega))
  have C2 := hide (splitL_any o (by omega))
  have C3 := hide (splitL_any t (by omega))
  have HT : Hid (mergeT b o t = mgT (linesOf b) (linesOf o) (linesOf t) (mtc (linesOf b) (linesOf o) 0) (mtc (linesOf b) (linesOf t) 0) 0 0 0 0) := hide rfl
  have HM : Hid (mergeN b o t = mgN (linesOf b) (linesOf o) (linesOf t) (mtc (linesOf b) (linesOf o) 0) (mtc (linesOf b) (linesOf t) 0) 0 0 0 0) := hide rfl
  generalize linesOf b = B at *
  generalize linesOf o = O at *
  generalize linesOf t = T at *
  generalize mergeT b o t = RT at *
  generalize mergeN b o t = RN at *
  have HE := hide h
  have Hin := hide h.inn
  have own_e := h.own
  have el := h.inn e h.own
  clear h
  go_enter Try.func28, Try.ntmps28
  go_upto_region 4 with fail
  obtain ⟨W1, hW1⟩ : ∃ W1, W1 = w.alloc (.cells #[.slice none 0 0, .slice none 0 0, .slice none 0 0, .slice none 0 0, .slice none 0 0, .slice none 0 0] 100) := ⟨_, rfl⟩
  rw [← hW1]
  have hx1 := Has.new w #[.slice none 0 0, .slice none 0 0, .slice none 0 0, .slice none 0 0, .slice none 0 0, .slice none 0 0] 100
  rw [← hW1] at hx1
  have o1 : Only (fun _ => False) w W1 := by rw [hW1]; exact (Only.refl _ _).alloc _
  have s1 := o1.size
  obtain ⟨x, hx⟩ : ∃ x, x = w.heap.size := ⟨_, rfl⟩
  rw [← hx] at hx1
  rw [← hx]
  have hxw : w.heap.size ≤ x := by omega
  have xl1 := hx1.lt
  clear hW1 hx
  have Hx1 := hide hx1
  have O1 := hide o1
  clear hx1 o1
  go_wp2_with fail
  refine (unhide C1 W1).mono ?_
  rintro r w2 ⟨vb, rfl, ob2, bb2, o2⟩
  have hx2 := (unhide Hx1).keep o2 (fun h => h)
  have c0 := hx2.cell 0
  have z0 := hx2.free 0
  have xl2 := hx2.lt
  obtain ⟨ba, bn, bc, rfl⟩ := own_slice ob2
  have nb2 := ownsRow_ne ob2.row hx2 (by decide)
  have lb2 := ownsRow_lt ob2.row
  have oS2 := donly1 (w := w2) (p := x) 0 (.slice ba bn bc)
  have hX2 := hide (Has.x0 (v := .slice ba bn bc) hx2)
  have OB2 := hide (ob2.keep oS2 (fun y hy ey => nb2 y hy ey))
  have O2 := hide (((unhide O1).trans o2 (fun _ _ h => h)).trans oS2 (fun y hy ey => by omega))
  have s2 := o2.size
  have fb2 : ∀ y, (Value.slice ba bn bc).ownBlock = some y → w.heap.size ≤ y ∧ y < w2.heap.size ∧ y ≠ x := fun y hy => ⟨by have := bb2 y hy; omega, lb2 y hy, nb2 y hy⟩
  have FB := hide fb2
  clear hx2 nb2 lb2 oS2 ob2 bb2 o2 fb2 Hx1 O1 C1
  go_upto_region 5 with fail
  have sW2 : (w2.setCell ⟨x, 0, none⟩ (.slice ba bn bc)).heap.size = w2.heap.size := by simp
  generalize w2.setCell ⟨x, 0, none⟩ (.slice ba bn bc) = W2 at *
  clear c0 z0
  go_wp2_with fail
  refine (unhide C2 W2).mono ?_
  rintro r w3 ⟨vo, rfl, oo3, bo3, o3⟩
  have hx3 := (unhide hX2).keep o3 (fun h => h)
  have c0 := hx3.cell 1
  have z0 := hx3.free 1
  have xl3 := hx3.lt
  obtain ⟨oa, on, oc, rfl⟩ := own_slice oo3
  have no3 := ownsRow_ne oo3.row hx3 (by decide)
  have lo3 := ownsRow_lt oo3.row
  have oS3 := donly1 (w := w3) (p := x) 1 (.slice oa on oc)
  have hX3 := hide (Has.x1 (v := .slice oa on oc) hx3)
  have OO3 := hide (oo3.keep oS3 (fun y hy ey => no3 y hy ey))
  have OB3 := hide (((unhide OB2).keep o3 (fun _ _ h => h)).keep oS3 (fun y hy ey => (unhide FB y hy).2.2 ey))
  have O3 := hide (((unhide O2).trans o3 (fun _ _ h => h)).trans oS3 (fun y hy ey => by omega))
  have s3 := o3.size
  have fo3 : ∀ y, (Value.slice oa on oc).ownBlock = some y → w.heap.size ≤ y ∧ y < w3.heap.size ∧ y ≠ x := fun y hy => ⟨by have := bo3 y hy; omega, lo3 y hy, no3 y hy⟩
  have FO := hide fo3
  clear hx3 no3 lo3 oS3 oo3 bo3 o3 fo3 hX2 O2 OB2 C2
  go_upto_region 6 with fail
  have sW3 : (w3.setCell ⟨x, 1, none⟩ (.slice oa on oc)).heap.size = w3.heap.size := by simp
  generalize w3.setCell ⟨x, 1, none⟩ (.slice oa on oc) = W3 at *
  clear c0 z0
  go_wp2_with fail
  refine (unhide C3 W3).mono ?_
  rintro r w4 ⟨vt, rfl, ot4, bt4, o4⟩
  have hx4 := (unhide hX3).keep o4 (fun h => h)
  have c0 := hx4.cell 2
  have z0 := hx4.free 2
  have xl4 := hx4.lt
  obtain ⟨ta, tn, tc, rfl⟩ := own_slice ot4
  have nt4 := ownsRow_ne ot4.row hx4 (by decide)
  have lt4 := ownsRow_lt ot4.row
  have oS4 := donly1 (w := w4) (p := x) 2 (.slice ta tn tc)
  have hX4 := hide (Has.x2 (v := .slice ta tn tc) hx4)
  have OT4 := hide (ot4.keep oS4 (fun y hy ey => nt4 y hy ey))
  have OB4 := hide (((unhide OB3).keep o4 (fun _ _ h => h)).keep oS4 (fun y hy ey => (unhide FB y hy).2.2 ey))
  have OO4 := hide (((unhide OO3).keep o4 (fun _ _ h => h)).keep oS4 (fun y hy ey => (unhide FO y hy).2.2 ey))
  have O4 := hide (((unhide O3).trans o4 (fun _ _ h => h)).trans oS4 (fun y hy ey => by omega))
  have s4 := o4.size
  have ft4 : ∀ y, (Value.slice ta tn tc).ownBlock = some y → w.heap.size ≤ y ∧ y < w4.heap.size ∧ y ≠ x := fun y hy => ⟨by have := bt4 y hy; omega, lt4 y hy, nt4 y hy⟩
  have FT := hide ft4
  clear hx4 nt4 lt4 oS4 ot4 bt4 o4 ft4 hX3 O3 OB3 OO3 C3
  go_upto_region 7 with fail
  have sW4 : (w4.setCell ⟨x, 2, none⟩ (.slice ta tn tc)).heap.size = w4.heap.size := by simp
  generalize w4.setCell ⟨x, 2, none⟩ (.slice ta tn tc) = W4 at *
  clear c0 z0
  have C4 := hide (dreset_any ((unhide HE).keep (unhide O4) (fun _ _ h => h)))
  go_wp2_with fail
  refine (unhide C4).mono ?_
  rintro r w5 ⟨rfl, E5, o5⟩
  have nF : ∀ y, w.heap.size ≤ y → ¬ F y := fun y hy hf => by have := unhide Hin y hf; omega
  have hX5 := hide ((unhide hX4).keep o5 (fun h => by omega))
  have OB5 := hide ((unhide OB4).keep o5 (fun y hy ey => by have := (unhide FB y hy).1; omega))
  have OO5 := hide ((unhide OO4).keep o5 (fun y hy ey => by have := (unhide FO y hy).1; omega))
  have OT5 := hide ((unhide OT4).keep o5 (fun y hy ey => by have := (unhide FT y hy).1; omega))
  have O5 : Hid (Only F w w5) := hide (((unhide O4).mono (fun _ _ h => h.elim)).trans o5 (fun y hy ey => ey ▸ own_e))
  have s5 := o5.size
  have NF := hide nF
  have C6 := hide (dnumbers_any E5 (.slice ba bn bc) B (unhide OB5).in_ (fun y hy => nF y (unhide FB y hy).1) (by omega) (fun s hs => by have := (unhide HS).1 s hs; omega) (by simp))
  have c0 := (unhide hX5).cell 0
  have xl5 := (unhide hX5).lt
  clear E5 o5 nF hX4 OB4 OO4 OT4 O4 C4 HE
  go_wp2_with fail
  refine (unhide C6).mono ?_
  rintro r w6 ⟨gb, rfl, X6, ⟨F6, E6, f6⟩, o6, lgb⟩
  have nx6 : ¬ F6 x := fun hf => by
    rcases f6 x hf with h | h
    · exact unhide NF x hxw h
    · omega
  have ngb : ¬ F6 gb := fun hf => by
    rcases f6 gb hf with h | h
    · exact unhide NF gb (by omega) h
    · exact h.2 rfl
  have hgx : gb ≠ x := by omega
  have hx6 := (unhide hX5).keep o6 (unhide NF x hxw)
  have c3 := hx6.cell 3
  have z3 := hx6.free 3
  have xl6 := hx6.lt
  have oS6 := donly1 (w := w6) (p := x) 3 (.slice (some ⟨gb, 0, none⟩) B.length B.length)
  have hX6 := hide (Has.x3 (v := .slice (some ⟨gb, 0, none⟩) B.length B.length) hx6)
  have GB6 := hide (X6.keep oS6 hgx)
  have EE6 := hide (E6.keep oS6 (fun k hk ek => nx6 (ek ▸ hk)))
  have OB6 := hide (((unhide OB5).keep o6 (fun y hy => unhide NF y (unhide FB y hy).1)).keep oS6 (fun y hy ey => (unhide FB y hy).2.2 ey))
  have OO6 := hide (((unhide OO5).keep o6 (fun y hy => unhide NF y (unhide FO y hy).1)).keep oS6 (fun y hy ey => (unhide FO y hy).2.2 ey))
  have OT6 := hide (((unhide OT5).keep o6 (fun y hy => unhide NF y (unhide FT y hy).1)).keep oS6 (fun y hy ey => (unhide FT y hy).2.2 ey))
  have O6 : Hid (Only F w _) := hide (((unhide O5).trans o6 (fun _ _ h => h)).trans oS6 (fun y hy ey => by omega))
  have s6 := o6.size
  have gl6 := Has.lt X6
  have FF6 := hide f6
  have NG6 := hide ngb
  have NX6 := hide nx6
  clear hx6 oS6 X6 E6 f6 o6 ngb nx6 hX5 OB5 OO5 OT5 O5 C6 c0
  go_upto_region 9 with fail
  have sW6 : (w6.setCell ⟨x, 3, none⟩ (.slice (some ⟨gb, 0, none⟩) B.length B.length)).heap.size = w6.heap.size := by simp
  generalize w6.setCell ⟨x, 3, none⟩ (.slice (some ⟨gb, 0, none⟩) B.length B.length) = W6 at *
  clear c3 z3
  have n6 : ∀ y, w.heap.size ≤ y → y < w5.heap.size → ¬ F6 y := fun y h1 h2 hf => by
    rcases unhide FF6 y hf with h | h
    · exact unhide NF y h1 h
    · omega
  have N6 := hide n6
  have al1 := addsL_len B []
  have C7 := hide (dnumbers_any (unhide EE6) (.slice oa on oc) O (unhide OO6).in_ (fun y hy => n6 y (unhide FO y hy).1 (by have := (unhide FO y hy).2.1; omega)) (by omega) (fun s hs => by have := (unhide HS).2.1 s hs; omega) (by simp at al1; omega))
  have c0 := (unhide hX6).cell 1
  have xl6' := (unhide hX6).lt
  clear n6
  go_wp2_with fail
  refine (unhide C7).mono ?_
  rintro r w7 ⟨go, rfl, X7, ⟨F7, E7, f7⟩, o7, lgo⟩
  have nx7 : ¬ F7 x := fun hf => by
    rcases f7 x hf with h | h
    · exact unhide NX6 h
    · omega
  have ngo : ¬ F7 go := fun hf => by
    rcases f7 go hf with h | h
    · have := (unhide EE6).inn go h; omega
    · exact h.2 rfl
  have ngb7 : ¬ F7 gb := fun hf => by
    rcases f7 gb hf with h | h
    · exact unhide NG6 h
    · omega
  have hgx7 : go ≠ x := by omega
  have hx7 := (unhide hX6).keep o7 (unhide NX6)
  have c4 := hx7.cell 4
  have z4 := hx7.free 4
  have xl7 := hx7.lt
  have oS7 := donly1 (w := w7) (p := x) 4 (.slice (some ⟨go, 0, none⟩) O.length O.length)
  have hX7 := hide (Has.x4 (v := .slice (some ⟨go, 0, none⟩) O.length O.length) hx7)
  have GO7 := hide (X7.keep oS7 hgx7)
  have GB7 := hide (((unhide GB6).keep o7 (unhide NG6)).keep oS7 hgx)
  have EE7 := hide (E7.keep oS7 (fun k hk ek => nx7 (ek ▸ hk)))
  have OB7 := hide (((unhide OB6).keep o7 (fun y hy => unhide N6 y (unhide FB y hy).1 (by have := (unhide FB y hy).2.1; omega))).keep oS7 (fun y hy ey => (unhide FB y hy).2.2 ey))
  have OO7 := hide (((unhide OO6).keep o7 (fun y hy => unhide N6 y (unhide FO y hy).1 (by have := (unhide FO y hy).2.1; omega))).keep oS7 (fun y hy ey => (unhide FO y hy).2.2 ey))
  have OT7 := hide (((unhide OT6).keep o7 (fun y hy => unhide N6 y (unhide FT y hy).1 (by have := (unhide FT y hy).2.1; omega))).keep oS7 (fun y hy ey => (unhide FT y hy).2.2 ey))
  have O7 : Hid (Only F w _) := hide (((unhide O6).trans o7 (fun y hy hf => by
    rcases unhide FF6 y hf with h | h
    · exact h
    · omega)).trans oS7 (fun y hy ey => by omega))
  have s7 := o7.size
  have gl7 := Has.lt X7
  have FF7 : Hid (∀ k, F7 k → F k ∨ w5.heap.size ≤ k) := hide (fun k hk => by
    rcases f7 k hk with h | h
    · rcases unhide FF6 k h with h | h
      · exact .inl h
      · exact .inr h.1
    · exact .inr (by omega))
  have NG7 := hide (And.intro ngb7 ngo)
  have NX7 := hide nx7
  clear hx7 oS7 X7 E7 f7 o7 ngo ngb7 nx7 hX6 OB6 OO6 OT6 O6 C7 c0 GB6 EE6 FF6 NG6 NX6 N6
  go_upto_region 10 with fail
  have sW7 : (w7.setCell ⟨x, 4, none⟩ (.slice (some ⟨go, 0, none⟩) O.length O.length)).heap.size = w7.heap.size := by simp
  generalize w7.setCell ⟨x, 4, none⟩ (.slice (some ⟨go, 0, none⟩) O.length O.length) = W7 at *
  clear c4 z4
  have n7 : ∀ y, w.heap.size ≤ y → y < w5.heap.size → ¬ F7 y := fun y h1 h2 hf => by
    rcases unhide FF7 y hf with h | h
    · exact unhide NF y h1 h
    · omega
  have N7 := hide n7
  have al2 := addsL_len O (addsL [] B)
  have C8 := hide (dnumbers_any (unhide EE7) (.slice ta tn tc) T (unhide OT7).in_ (fun y hy => n7 y (unhide FT y hy).1 (by have := (unhide FT y hy).2.1; omega)) (by omega) (fun s hs => by have := (unhide HS).2.2 s hs; omega) (by simp at al1; omega))
  have c0 := (unhide hX7).cell 2
  have xl7' := (unhide hX7).lt
  clear n7
  go_wp2_with fail
  refine (unhide C8).mono ?_
  rintro r w8 ⟨gt, rfl, X8, ⟨F8, E8, f8⟩, o8, lgt⟩
  have nx8 : ¬ F8 x := fun hf => by
    rcases f8 x hf with h | h
    · exact unhide NX7 h
    · omega
  have hgx8 : gt ≠ x := by omega
  have hx8 := (unhide hX7).keep o8 (unhide NX7)
  have c5 := hx8.cell 5
  have z5 := hx8.free 5
  have xl8 := hx8.lt
  have oS8 := donly1 (w := w8) (p := x) 5 (.slice (some ⟨gt, 0, none⟩) T.length T.length)
  have hX8 := Has.x5 (v := .slice (some ⟨gt, 0, none⟩) T.length T.length) hx8
  have GT8 := X8.keep oS8 hgx8
  have GO8 := ((unhide GO7).keep o8 (unhide NG7).2).keep oS8 hgx7
  have GB8 := ((unhide GB7).keep o8 (unhide NG7).1).keep oS8 hgx
  have EE8 := hide (E8.keep oS8 (fun k hk ek => nx8 (ek ▸ hk)))
  have OB8 := ((unhide OB7).keep o8 (fun y hy => unhide N7 y (unhide FB y hy).1 (by have := (unhide FB y hy).2.1; omega))).keep oS8 (fun y hy ey => (unhide FB y hy).2.2 ey)
  have OO8 := ((unhide OO7).keep o8 (fun y hy => unhide N7 y (unhide FO y hy).1 (by have := (unhide FO y hy).2.1; omega))).keep oS8 (fun y hy ey => (unhide FO y hy).2.2 ey)
  have OT8 := ((unhide OT7).keep o8 (fun y hy => unhide N7 y (unhide FT y hy).1 (by have := (unhide FT y hy).2.1; omega))).keep oS8 (fun y hy ey => (unhide FT y hy).2.2 ey)
  have O8 : Hid (Only F w _) := hide (((unhide O7).trans o8 (fun y hy hf => by
    rcases unhide FF7 y hf with h | h
    · exact h
    · omega)).trans oS8 (fun y hy ey => by omega))
  have s8 := o8.size
  have FF8 : Hid (∀ k, F8 k → F k ∨ w.heap.size ≤ k) := hide (fun k hk => by
    rcases f8 k hk with h | h
    · rcases unhide FF7 k h with h | h
      · exact .inl h
      · exact .inr (by omega)
    · exact .inr (by omega))
  have IN8 := hide E8.inn
  rw [← numsL_more _ B O (addsL_mem B []), ← numsL_more _ B T (fun t ht => addsL_sub O _ t (addsL_mem B [] t ht))] at GB8
  rw [← numsL_more _ O T (addsL_mem O _)] at GO8
  have hTX : TX (w8.setCell ⟨x, 5, none⟩ (.slice (some ⟨gt, 0, none⟩) T.length T.length)) x (.slice ba bn bc) (.slice oa on oc) (.slice ta tn tc) gb go gt B O T (addsL (addsL (addsL [] B) O) T) :=
    ⟨hX8, OB8, OO8, OT8, GB8, GO8, GT8, fun t ht => addsL_sub T _ t (addsL_sub O _ t (addsL_mem B [] t ht)), fun t ht => addsL_sub T _ t (addsL_mem O _ t ht), addsL_mem T _⟩
  have TX8 := hide hTX
  clear hx8 oS8 X8 E8 f8 o8 nx8 hX8 OB8 OO8 OT8 GB8 GO8 GT8 hX7 OB7 OO7 OT7 O7 C8 c0 GB7 GO7 EE7 FF7 NG7 NX7 N7 hTX al1 al2 HS FB FO FT
  go_upto_region 11 with fail
  have sW8 : (w8.setCell ⟨x, 5, none⟩ (.slice (some ⟨gt, 0, none⟩) T.length T.length)).heap.size = w8.heap.size := by simp
  generalize w8.setCell ⟨x, 5, none⟩ (.slice (some ⟨gt, 0, none⟩) T.length T.length) = W8 at *
  clear c5 z5
  generalize hP : addsL (addsL (addsL [] B) O) T = P at *
  clear hP
  obtain rfl : bn = B.length := by have := ownsRow_shape (unhide TX8).lb.row; simpa using this
  obtain rfl : on = O.length := by have := ownsRow_shape (unhide TX8).lo.row; simpa using this
  obtain rfl : tn = T.length := by have := ownsRow_shape (unhide TX8).lt.row; simpa using this
  have C9 := hide (fun W (hW : Only (fun _ => False) W8 W) => (by
    have h := (unhide TX8).quiet hW
    have := dmatch_any h.nb h.no (by rw [numsL_len]; omega) (by rw [numsL_len]; omega)
    rw [numsL_len, numsL_len, numsL_mtc P B O 0 h.mb h.mo] at this
    exact this : Calls Try.prog 40 #[.slice (some ⟨gb, 0, none⟩) B.length B.length, .slice (some ⟨go, 0, none⟩) O.length O.length] W fun e w' => ∃ g, e = .returned (.slice (some ⟨g, 0, none⟩) B.length B.length) ∧ IntsR w' g (mtc B O 0) ∧ W.heap.size ≤ g ∧ Only (fun _ => False) W w'))
  have C10 := hide (fun W (hW : Only (fun _ => False) W8 W) => (by
    have h := (unhide TX8).quiet hW
    have := dmatch_any h.nb h.nt (by rw [numsL_len]; omega) (by rw [numsL_len]; omega)
    rw [numsL_len, numsL_len, numsL_mtc P B T 0 h.mb h.mt] at this
    exact this : Calls Try.prog 40 #[.slice (some ⟨gb, 0, none⟩) B.length B.length, .slice (some ⟨gt, 0, none⟩) T.length T.length] W fun e w' => ∃ g, e = .returned (.slice (some ⟨g, 0, none⟩) B.length B.length) ∧ IntsR w' g (mtc B T 0) ∧ W.heap.size ≤ g ∧ Only (fun _ => False) W w'))
  have hr1 := mtc_rise _ B O 0 (Nat.le_refl _)
  have hr2 := mtc_rise _ B T 0 (Nat.le_refl _)
  rw [Nat.zero_add] at hr1 hr2
  have M0 := hide (MgAt.start (mtc_len _ B O 0 (Nat.le_refl _)) (mtc_len _ B T 0 (Nat.le_refl _)) hr1 hr2)
  generalize mtc B O 0 = mo at *
  generalize mtc B T 0 = mt at *
  clear hr1 hr2
  go_cut [12] (fun v W => ∃ g, v = .slice (some ⟨g, 0, none⟩) B.length B.length ∧ IntsR W g mo ∧ W8.heap.size ≤ g ∧ Only (fun _ => False) W8 W)
  case first =>
    have c3 := (unhide TX8).hd.cell 3
    have c4 := (unhide TX8).hd.cell 4
    have cl := (unhide TX8).hd.lt
    have hq := Only.refl (fun _ => False) W8
    have hC := hide (unhide C9 W8.drew hq.drew)
    clear C9 C10 M0 TX8 EE8 O8 FF8 IN8 HT HM HN
    go_region_with (go_at_call 40; refine (unhide hC).mono ?_; rintro e w9 ⟨g, rfl, hS1, hS2, hS3⟩)
    all_goals
      have hS' := hide (And.intro hS1 (And.intro hS2 (hq.drew.trans hS3 (fun _ _ h => h))))
      clear hS1 hS2 hS3
      go_wp2_with fail
      go_meet
      exact ⟨g, rfl, unhide hS'⟩
  case rest =>
  obtain ⟨gmo, rfl, M9, lm9, o9⟩ := hcut
  generalize wc = W9 at *
  have TX9 := hide ((unhide TX8).quiet o9)
  have E9 := hide ((unhide EE8).keep o9 (fun _ _ h => h))
  have O9 : Hid (Only F w W9) := hide ((unhide O8).trans o9 (fun _ _ h => h.elim))
  have M9 := hide M9
  have s9 := o9.size
  have lm9' := Has.lt (unhide M9)
  have hC := hide (fun W hW => unhide C10 W (o9.trans hW (fun _ _ h => h)))
  clear o9 TX8 EE8 O8 C9 C10
  go_upto_region 12 with fail
  go_cut [13] (fun v W => ∃ g, v = .slice (some ⟨g, 0, none⟩) B.length B.length ∧ IntsR W g mt ∧ W9.heap.size ≤ g ∧ Only (fun _ => False) W9 W)
  case first =>
    have c3 := (unhide TX9).hd.cell 3
    have c5 := (unhide TX9).hd.cell 5
    have cl := (unhide TX9).hd.lt
    have hq := Only.refl (fun _ => False) W9
    have hD := hide (unhide hC W9.drew hq.drew)
    clear hC M0 TX9 E9 O9 FF8 IN8 HT HM HN M9
    go_region_with (go_at_call 40; refine (unhide hD).mono ?_; rintro e w9 ⟨g, rfl, hS1, hS2, hS3⟩)
    all_goals
      have hS' := hide (And.intro hS1 (And.intro hS2 (hq.drew.trans hS3 (fun _ _ h => h))))
      clear hS1 hS2 hS3
      go_wp2_with fail
      go_meet
      exact ⟨g, rfl, unhide hS'⟩
  case rest =>
  obtain ⟨gmt, rfl, N10, ln10, o10⟩ := hcut
  generalize wc = W10 at *
  obtain ⟨cu, hm, hB0⟩ := drun_make_byt W10 o.size (by omega)
  have oA : Only (fun _ => False) W10 (W10.alloc (.cells cu 5)) := (Only.refl _ _).alloc _
  have o11 := o10.trans oA (fun _ _ h => h)
  have TX11 := hide ((unhide TX9).quiet o11)
  have E11 := hide ((unhide E9).keep o11 (fun _ _ h => h))
  have O11 : Hid (Only F w _) := hide ((unhide O9).trans o11 (fun _ _ h => h.elim))
  have MO := hide ((unhide M9).keep o11 (fun h => h))
  have MT := hide (N10.keep oA (fun h => h))
  have s10 := o10.size
  have HB0 := hide hB0
  have HBS := hide (BI.start hB0)
  have lv0 : ∀ y, (Value.slice (some ⟨W10.heap.size, 0, none⟩) 0 o.size).ownBlock = some y → W9.heap.size ≤ y := fun y hy => by simp [Value.ownBlock] at hy; omega
  have LV0 := hide lv0
  clear lv0 o10 oA o11 TX9 E9 O9 M9 N10 hB0 hC
  go_upto_region 20 with fail
  generalize W10.alloc (.cells cu 5) = W11 at *
  generalize Value.slice (some ⟨W10.heap.size, 0, none⟩) 0 o.size = v0 at *
  clear hm
  go_loopw [14, 15, 17, 18, 19, 20] (fun ov nv bv ouv tv iv wr => ∃ (i bi oi ti n : Nat) (out : Str), nv = .int .i64 n ∧ bv = .int .i64 bi ∧ ouv = .int .i64 oi ∧ tv = .int .i64 ti ∧ iv = .int .i64 i ∧ MgAt B O T mo mt out n i bi oi ti ∧ BI W11 v0 ov out wr) (fun _ _ _ _ _ iv _ => B.length - (intOf iv).toNat)
  case atStart => exact ⟨0, 0, 0, 0, 0, [], rfl, rfl, rfl, rfl, rfl, unhide M0, unhide HBS⟩
  case round =>
    clear M0 HBS
    obtain ⟨i, bi, oi, ti, n, out, rfl, rfl, rfl, rfl, rfl, hM, hI⟩ := hrel
    have hbd := hM.bound
    have hol : out.length ≤ 100000 := by omega
    have hnl : n ≤ 2000 := by have := hM.nl; have := hM.il; omega
    have hbl := hM.bl
    have hoi := hM.ro.le
    have hti := hM.rt.le
    have hTr := (unhide TX11).byt (unhide HB0) hI
    have hmo := (unhide MO).byt (unhide HB0) hI
    have hmt := (unhide MT).byt (unhide HB0) hI
    have c0 := hTr.hd.cell 0
    have xlr := hTr.hd.lt
    by_cases hi : i < B.length
    · have b1 : decide ((i : Int) < (B.length : Int)) = true := decide_eq_true (by omega)
      have b2 : (i : Int) < (B.length : Int) := by omega
      obtain ⟨h1, h2, hc⟩ := hM.cases hi
      have m0 := hmo.cell i h1
      have k0 := hmt.cell i h2
      have ml0 := Has.lt hmo
      have kl0 := Has.lt hmt
      rcases hc with ⟨hn, hco, hct, hM'⟩ | ⟨x', y', ex, ey, q1, q2, q3, q4, hM'⟩
      · have HM' := hide hM'
        have HI := hide hI
        clear hM hM' hTr hmo hmt hI
        rcases hco with e1 | ⟨k, e1, _⟩
        · rw [e1] at m0
          clear hn hct e1
          go_wp2_with fail
          go_roundw
          case rel => exact ⟨i + 1, bi, oi, ti, n, out, rfl, rfl, rfl, rfl, by go_num, unhide HM', unhide HI⟩
          case measure => simp [intOf]; omega
        · rcases hct with e2 | ⟨k', e2, _⟩
          · rw [e1] at m0
            rw [e2] at k0
            have t1 : decide ((0 : Int) ≤ (k : Int)) = true := decide_eq_true (by omega)
            clear hn e1 e2
            go_wp2_with fail
            go_roundw
            case rel => exact ⟨i + 1, bi, oi, ti, n, out, rfl, rfl, rfl, rfl, by go_num, unhide HM', unhide HI⟩
            case measure => simp [intOf]; omega
          · exact absurd ⟨by omega, by omega⟩ hn
      · rw [ex] at m0
        rw [ey] at k0
        have t1 : decide ((0 : Int) ≤ (x' : Int)) = true := decide_eq_true (by omega)
        have t2 : decide ((0 : Int) ≤ (y' : Int)) = true := decide_eq_true (by omega)
        have C11 := hide (dpiece_any (hTr.quiet (Only.refl (fun _ => False) wr).drew) (hI.own.keep (Only.refl (fun _ => False) wr).drew (fun _ _ h => h)) bi i oi x' ti y' hbl (by omega) q1 (by omega) q3 (by omega) (by omega) (by omega) (by omega) (by omega) (by omega) hol (unhide HN).2.1 (unhide HN).2.2)
        have hmq := hmo.keep (Only.refl (fun _ => False) wr).drew (fun h => h)
        have hkq := hmt.keep (Only.refl (fun _ => False) wr).drew (fun h => h)
        have m0q := hmq.cell i h1
        have k0q := hkq.cell i h2
        rw [ex] at m0q
        rw [ey] at k0q
        have HM' := hide hM'
        have HI := hide hI
        have HTr := hide hTr
        have Hmo := hide hmo
        have Hmt := hide hmt
        have hpl := pieceT_len (cutL B bi i) (cutL O oi x') (cutL T ti y')
        have hpf : (cutL O oi x').flatten.length ≤ 1024 := by have := flat_take O oi x' q1; have := flat_take_le O x'; omega
        have hpf' : (cutL T ti y').flatten.length ≤ 1024 := by have := flat_take T ti y' q3; have := flat_take_le T y'; omega
        have hpn := pieceN_le (cutL B bi i) (cutL O oi x') (cutL T ti y')
        generalize pieceT (cutL B bi i) (cutL O oi x') (cutL T ti y') = PT at *
        generalize pieceN (cutL B bi i) (cutL O oi x') (cutL T ti y') = PN at *
        clear hM hM' hTr hmo hmt hI hmq hkq
        go_upto_region 23 with fail
        go_cut [14, 16] (fun v u W => ∃ v', v = v' ∧ u = .int .i64 (PN : Nat) ∧ BI wr.drew u14 v' (out ++ PT) W)
        case first =>
          clear HM' HI HTr Hmo Hmt HT HM HN TX11 E11 O11 MO MT HB0 LV0 FF8 IN8
          go_region_with (go_at_call 49; refine (unhide C11).mono ?_; rintro e w12 ⟨v', rfl, hB12⟩)
          all_goals
            have hB' := hide hB12
            clear hB12
            go_wp2_with fail
            go_meet
            exact ⟨v', rfl, rfl, unhide hB'⟩
        case rest =>
        obtain ⟨v', rfl, rfl, hB12⟩ := hcut
        generalize wc = W12 at *
        have hI12 := ((unhide HI).quiet (Only.refl (fun _ => False) wr).drew).trans hB12
        have hT12 := (unhide TX11).byt (unhide HB0) hI12
        have d0 := hT12.hd.cell 0
        have xl12 := hT12.hd.lt
        rcases hT12.lb.form with ⟨_, e0⟩ | ⟨gl, lcap, el, _, _, hgll, hlc⟩
        · rw [e0] at hi; simp at hi
        · obtain ⟨rfl, rfl⟩ : ba = some ⟨gl, 0, none⟩ ∧ bc = lcap := by simpa using el
          have l0 := hlc i hi
          have hbi : B[i].length ≤ 1024 := by have := mem_flat_len (List.getElem_mem hi); omega
          have C12 := hide (dadd_any hI12.own B[i] (by rw [List.length_append]; omega) (by omega))
          have HI12 := hide hI12
          generalize B[i] = bx at *
          clear hI12 hT12 hB12 el hlc HI HTr Hmo Hmt C11 m0 k0 m0q k0q c0 xlr ml0 kl0
          go_wp2_with fail
          refine (unhide C12).mono ?_
          rintro r w13 ⟨v13, rfl, hB13, b13, o13⟩
          have hI13 := (unhide HI12).step hB13 b13 o13
          rw [List.append_assoc] at hI13
          have hmo := (unhide MO).byt (unhide HB0) hI13
          have hmt := (unhide MT).byt (unhide HB0) hI13
          have m0 := hmo.cell i h1
          have k0 := hmt.cell i h2
          rw [ex] at m0
          rw [ey] at k0
          have ml0 := Has.lt hmo
          have kl0 := Has.lt hmt
          have HI13 := hide hI13
          clear hI13 hmo hmt hB13 b13 o13 C12 HI12 d0 xl12 l0 ex ey
          go_wp2_with fail
          go_roundw
          case rel => exact ⟨i + 1, i + 1, x' + 1, y' + 1, n + PN, _, by first | rfl | (congr 1; push_cast; rfl), by go_num, by go_num, by go_num, by go_num, unhide HM', unhide HI13⟩
          case measure => simp [intOf]; omega
    · have b1 : decide ((i : Int) < (B.length : Int)) = false := decide_eq_false (by omega)
      obtain ⟨eT, eN, p1, p2, p3⟩ := hM.fin (by have := hM.il; omega)
      have C11 := hide (dpiece_any (hTr.quiet (Only.refl (fun _ => False) wr).drew) (hI.own.keep (Only.refl (fun _ => False) wr).drew (fun _ _ h => h)) bi B.length oi O.length ti T.length p1 (by omega) p2 (by omega) p3 (by omega) (by omega) (by omega) (by omega) (by omega) (by omega) hol (unhide HN).2.1 (unhide HN).2.2)
      have c1 := hTr.hd.cell 1
      have c2 := hTr.hd.cell 2
      have hTq := hTr.quiet (Only.refl (fun _ => False) wr).drew
      have hRT : RT = out ++ pieceT (cutL B bi B.length) (cutL O oi O.length) (cutL T ti T.length) := by rw [unhide HT]; exact eT
      have hRN : RN = n + pieceN (cutL B bi B.length) (cutL O oi O.length) (cutL T ti T.length) := by rw [unhide HM]; exact eN
      have hpn := pieceN_le (cutL B bi B.length) (cutL O oi O.length) (cutL T ti T.length)
      generalize pieceT (cutL B bi B.length) (cutL O oi O.length) (cutL T ti T.length) = PT at *
      generalize pieceN (cutL B bi B.length) (cutL O oi O.length) (cutL T ti T.length) = PN at *
      have HRT := hide hRT
      have HRN := hide hRN
      have HI := hide hI
      clear hM hTr hmo hmt hI eT eN hRT hRN hTq
      go_upto_region 29 with fail
      go_cut [14, 16] (fun v u W => ∃ v', v = v' ∧ u = .int .i64 (PN : Nat) ∧ BI wr.drew u14 v' (out ++ PT) W)
      case first =>
        clear HI HT HM HN TX11 E11 O11 MO MT HB0 LV0 FF8 IN8 HRT HRN
        go_region_with (go_at_call 49; refine (unhide C11).mono ?_; rintro e w12 ⟨v', rfl, hB12⟩)
        all_goals
          have hB' := hide hB12
          clear hB12
          go_wp2_with fail
          go_meet
          exact ⟨v', rfl, rfl, unhide hB'⟩
      case rest =>
      obtain ⟨v', rfl, rfl, hB12⟩ := hcut
      generalize wc = W12 at *
      have hI12 := ((unhide HI).quiet (Only.refl (fun _ => False) wr).drew).trans hB12
      have hbk := dback hI12.own
      have ho12 := hI12.ho
      have EE := hide ((unhide E11).keep ho12 (fun k hk e => by have := unhide LV0 k e; have := unhide IN8 k hk; omega))
      have OO := hide ((unhide O11).trans ho12 (fun k hk e => by have := unhide LV0 k e; omega))
      clear hI12 hB12 ho12 HI C11 c0 c1 c2
      go_wp2_with fail
      go_ret3
      rw [unhide HRT, unhide HRN]
      exact ⟨by first | rfl | (congr 3; push_cast; rfl), F8, P, unhide EE, unhide FF8, unhide OO⟩
end
end Go.Proofs.Qxb6500416a
