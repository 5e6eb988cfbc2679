/-
  OWN WORK. THE GRAPH: clear, place, find, seqOf.
-/
import Derived.Test.Qxb6500417aGreatGMm
namespace Go.Proofs.Qxb6500417aGreat
open Go.RowKit Go.PlainAid
set_option linter.unusedSimpArgs false
set_option linter.unusedVariables false

def mainB : ByteArray := ⟨#[109, 97, 105, 110]⟩
def Gt.fresh : Gt := ⟨fun _ => Cr.zero, fun _ => 0, 0, fun _ => Br.zero, 0, mainB, 0, 0, 0, 1⟩
/-- The first i rows are zero. -/
def zC (c : Nat → Cr) (i : Nat) : Nat → Cr := fun j => if j < i then Cr.zero else c j
def zO (o : Nat → Nat) (i : Nat) : Nat → Nat := fun j => if j < i then 0 else o j
theorem zC_succ (c : Nat → Cr) (i : Nat) : updT (zC c i) i Cr.zero = zC c (i + 1) := by
  funext j
  unfold updT zC
  by_cases e : j = i
  · rw [if_pos e, if_pos (by omega)]
  · rw [if_neg e]
    by_cases h : j < i
    · rw [if_pos h, if_pos (by omega)]
    · rw [if_neg h, if_neg (by omega)]
theorem zO_succ (o : Nat → Nat) (i : Nat) : updT (zO o i) i 0 = zO o (i + 1) := by
  funext j
  unfold updT zO
  by_cases e : j = i
  · rw [if_pos e, if_pos (by omega)]
  · rw [if_neg e]
    by_cases h : j < i
    · rw [if_pos h, if_pos (by omega)]
    · rw [if_neg h, if_neg (by omega)]
theorem only6g {w0 w : World} {S : Nat → Prop} {g i : Nat} (h : Only S w0 w) (hS : g < w0.heap.size → S g) (r : Cr) : Only S w0 (put6 w g i r) :=
  (((((h.setCell hS _).setCell hS _).setCell hS _).setCell hS _).setCell hS _).setCell hS _
section
variable {w : World} {g t : Nat} {T : Gt}
set_option maxRecDepth 100000 in
set_option maxHeartbeats 4000000 in
theorem gclear_any (h : GH w g t T) :
    Calls Tryz.prog 116 #[.pointer (some ⟨g, 0, none⟩)] w fun e w' => e = .returned (.tuple #[]) ∧ GH w' g t Gt.fresh ∧ Only (fun y => y = g) w w' := by
  have H0 := hide h
  clear h
  go_enter Tryz.func116, Tryz.ntmps116
  go_wp2_with fail
  go_loopw [2] (fun iv wr => ∃ i : Nat, iv = .int .i64 i ∧ i ≤ 49 ∧ GH wr g t { T with c := zC T.c i } ∧ Only (fun y => y = g) w wr) (fun iv _ => 49 - (intOf iv).toNat)
  case atStart => exact ⟨0, rfl, by omega, GH.congr (unhide H0) ⟨fun _ _ => rfl, fun _ _ => rfl, rfl, fun _ _ => rfl, rfl, rfl, rfl, rfl, rfl, rfl⟩, Only.refl _ _⟩
  case round =>
    clear H0
    obtain ⟨i, rfl, hi, hG, hO⟩ := hrel
    by_cases hil : i < 49
    · have a1 : decide ((i : Int) ≤ 48) = true := decide_eq_true (by omega)
      have a2 : (i : Int) < 49 := by omega
      have z0 := hG.com0 i hil
      have z1 := hG.com i 1 hil (by omega)
      have z2 := hG.com i 2 hil (by omega)
      have z3 := hG.com i 3 hil (by omega)
      have z4 := hG.com i 4 hil (by omega)
      have z5 := hG.com i 5 hil (by omega)
      have hP := hG.putC i hil Cr.zero
      have HP : Hid (GH (put6 wr g i Cr.zero) g t { T with c := zC T.c (i + 1) }) := hide (by
        rw [← zC_succ]; exact hP)
      have HO : Hid (Only (fun y => y = g) w (put6 wr g i Cr.zero)) := hide (only6g hO (fun _ => rfl) _)
      clear hG hP hO
      go_wp2_with fail
      go_roundw
      case rel => exact ⟨i + 1, by go_num, by omega, unhide HP, unhide HO⟩
      case measure => simp [intOf]; omega
    · have a1 : decide ((i : Int) ≤ 48) = false := decide_eq_false (by omega)
      have e1 : i = 49 := by omega
      subst e1
      have HG := hide hG
      have HO := hide hO
      clear hG hO
      go_wp2_with fail
      go_loopw [3] (fun iv wr => ∃ i : Nat, iv = .int .i64 i ∧ i ≤ 48 ∧ GH wr g t { T with c := zC T.c 49, o := zO T.o i } ∧ Only (fun y => y = g) w wr) (fun iv _ => 48 - (intOf iv).toNat)
      case atStart => exact ⟨0, rfl, by omega, GH.congr (unhide HG) ⟨fun _ _ => rfl, fun _ _ => rfl, rfl, fun _ _ => rfl, rfl, rfl, rfl, rfl, rfl, rfl⟩, unhide HO⟩
      case round =>
        clear HG HO
        obtain ⟨i, rfl, hi, hG, hO⟩ := hrel
        by_cases hil : i < 48
        · have a1 : decide ((i : Int) < 48) = true := decide_eq_true (by omega)
          have a2 : (i : Int) < 48 := by omega
          have z0 := hG.ord i hil
          have hP := hG.putO i hil 0
          have HP : Hid (GH (wr.setCell ⟨g, 295 + i, none⟩ (.int .i64 0)) g t { T with c := zC T.c 49, o := zO T.o (i + 1) }) := hide (by
            rw [← zO_succ]; exact hP)
          have HO : Hid (Only (fun y => y = g) w (wr.setCell ⟨g, 295 + i, none⟩ (.int .i64 0))) := hide (hO.setCell (fun _ => rfl) _)
          clear hG hP hO
          go_wp2_with fail
          go_roundw
          case rel => exact ⟨i + 1, by go_num, by omega, unhide HP, unhide HO⟩
          case measure => simp [intOf]; omega
        · have a1 : decide ((i : Int) < 48) = false := decide_eq_false (by omega)
          have e1 : i = 48 := by omega
          subst e1
          have z5 := hG.nx_
          have z4 := hG.aux_
          have z3 := hG.name_
          have z2 := hG.at__
          have z1 := hG.mg_
          have z0 := hG.nb_
          have z6 := hG.n_
          have zb0 := hG.brn 0 (by omega)
          have zb1 := hG.bri 0 (by omega)
          have zb2 := hG.brn 1 (by omega)
          have zb3 := hG.bri 1 (by omega)
          have zb4 := hG.brn 2 (by omega)
          have zb5 := hG.bri 2 (by omega)
          have zb6 := hG.brn 3 (by omega)
          have zb7 := hG.bri 3 (by omega)
          simp only [Nat.zero_mul, Nat.add_zero, Nat.one_mul, Nat.reduceMul, Nat.reduceAdd] at zb0 zb1 zb2 zb3 zb4 zb5 zb6 zb7
          have HG := hide hG
          have HO := hide hO
          clear hG hO
          go_wp2_with fail
          go_end0
          refine ⟨rfl, ?_, ?_⟩
          · have := ((((((((((((unhide HG).putN 0).putB 0 (by omega) Br.zero).putB 1 (by omega) Br.zero).putB 2 (by omega) Br.zero).putB 3 (by omega) Br.zero).putNb 0).putName mainB).putAt 0).putMg 0).putAux 0).putNx 1)
            refine GH.congr this ⟨fun i hi => ?_, fun i hi => ?_, rfl, fun i hi => ?_, rfl, rfl, rfl, rfl, rfl, rfl⟩
            · show zC T.c 49 i = Cr.zero
              unfold zC; rw [if_pos hi]
            · show zO T.o 48 i = 0
              unfold zO; rw [if_pos hi]
            · show updT (updT (updT (updT T.b 0 Br.zero) 1 Br.zero) 2 Br.zero) 3 Br.zero i = Br.zero
              match i, hi with
              | 0, _ => rfl
              | 1, _ => rfl
              | 2, _ => rfl
              | 3, _ => rfl
              | n + 4, hi => omega
          · have o := unhide HO
            exact ((((((((((((((o.setCell (fun _ => rfl) _).setCell (fun _ => rfl) _).setCell (fun _ => rfl) _).setCell (fun _ => rfl) _).setCell (fun _ => rfl) _).setCell (fun _ => rfl) _).setCell (fun _ => rfl) _).setCell (fun _ => rfl) _).setCell (fun _ => rfl) _).setCell (fun _ => rfl) _).setCell (fun _ => rfl) _).setCell (fun _ => rfl) _).setCell (fun _ => rfl) _).setCell (fun _ => rfl) _).setCell (fun _ => rfl) _
/-- The order with id put in at place p. -/
def insO (o : Nat → Nat) (p id n : Nat) : Nat → Nat := fun k => if k < p then o k else if k = p then id else if k ≤ n then o (k - 1) else o k
def shO (o : Nat → Nat) (i n : Nat) : Nat → Nat := fun k => if i < k ∧ k ≤ n then o (k - 1) else o k
theorem shO_start (o : Nat → Nat) (n : Nat) : shO o n n = o := by
  funext k
  unfold shO
  rw [if_neg (by omega)]
theorem shO_step (o : Nat → Nat) (i n : Nat) (hi : i + 1 ≤ n) : updT (shO o (i + 1) n) (i + 1) (o i) = shO o i n := by
  funext k
  unfold updT shO
  by_cases e : k = i + 1
  · rw [if_pos e, if_pos (by omega), e]; rfl
  · rw [if_neg e]
    by_cases h : i + 1 < k ∧ k ≤ n
    · rw [if_pos h, if_pos (by omega)]
    · rw [if_neg h, if_neg (by omega)]
theorem shO_end (o : Nat → Nat) (p id n : Nat) (hp : p ≤ n) : updT (shO o p n) p id = insO o p id n := by
  funext k
  unfold updT shO insO
  by_cases e : k = p
  · rw [if_pos e, if_neg (by omega), if_pos e]
  · rw [if_neg e]
    by_cases h : p < k ∧ k ≤ n
    · rw [if_pos h, if_neg (by omega), if_neg e, if_pos h.2]
    · rw [if_neg h]
      by_cases h2 : k < p
      · rw [if_pos h2]
      · rw [if_neg h2, if_neg e, if_neg (by omega)]
/-- Where place puts the commit id. -/
structure AtP (T : Gt) (id p : Nat) : Prop where
  le : p ≤ T.n
  hi : ∀ k, p ≤ k → k < T.n → (T.c id).seq < (T.c (T.o k)).seq
  lo : p = 0 ∨ (T.c (T.o (p - 1))).seq ≤ (T.c id).seq
set_option maxRecDepth 100000 in
set_option maxHeartbeats 4000000 in
theorem gplace_any (h : GH w g t T) (id : Nat) (hid : id < 49) (hn : T.n < 48) (ho : ∀ k, k < T.n → T.o k < 49) (hsq : ∀ k, k < 49 → (T.c k).seq < 4611686018427387904) :
    Calls Tryz.prog 123 #[.pointer (some ⟨g, 0, none⟩), .int .i64 id] w fun e w' => e = .returned (.tuple #[]) ∧ (∃ p, AtP T id p ∧ GH w' g t { T with o := insO T.o p id T.n, n := T.n + 1 }) ∧ Only (fun y => y = g) w w' := by
  have H0 := hide h
  have c0 := h.n_.1
  have Ho := hide ho
  have Hsq := hide hsq
  clear h ho hsq
  go_enter Tryz.func123, Tryz.ntmps123
  go_wp2_with fail
  go_loopw [4] (fun iv wr => ∃ i : Nat, iv = .int .i64 i ∧ i ≤ T.n ∧ (∀ k, i ≤ k → k < T.n → (T.c id).seq < (T.c (T.o k)).seq) ∧ GH wr g t { T with o := shO T.o i T.n } ∧ Only (fun y => y = g) w wr) (fun iv _ => (intOf iv).toNat)
  case atStart => exact ⟨T.n, rfl, by omega, fun k h1 h2 => by omega, by rw [shO_start]; exact unhide H0, Only.refl _ _⟩
  case round =>
    clear H0
    obtain ⟨i, rfl, hi, hgt, hG, hO⟩ := hrel
    have fin : ∀ (p : Nat), p = i → (p = 0 ∨ (T.c (T.o (p - 1))).seq ≤ (T.c id).seq) → ∀ wx, Only (fun _ => False) wr wx → (∃ p, AtP T id p ∧ GH ((wx.setCell ⟨g, 295 + i, none⟩ (.int .i64 (id : Int))).setCell ⟨g, 343, none⟩ (.int .i64 ((T.n + 1 : Nat) : Int))) g t { T with o := insO T.o p id T.n, n := T.n + 1 }) ∧ Only (fun y => y = g) w ((wx.setCell ⟨g, 295 + i, none⟩ (.int .i64 (id : Int))).setCell ⟨g, 343, none⟩ (.int .i64 ((T.n + 1 : Nat) : Int))) := fun p hp hlo wx hx => by
      subst hp
      refine ⟨⟨p, ⟨hi, hgt, hlo⟩, ?_⟩, ?_⟩
      · have := ((hG.quiet hx).putO p (by omega) id).putN (T.n + 1)
        rw [← shO_end _ _ _ _ hi]
        exact this
      · exact ((hO.trans hx (fun _ _ h => h.elim)).setCell (fun _ => rfl) _).setCell (fun _ => rfl) _
    have b1 := hG.com id 1 hid (by omega)
    have b1' : wr.cell? ⟨g, 1 + id * 6 + 1, none⟩ = some (.int .i64 ((T.c id).seq : Int)) := b1.1
    have a3 : (id : Int) < 49 := by omega
    have a4 : (i : Int) < 48 := by omega
    have HG := hide hG
    by_cases h0 : i = 0
    · subst h0
      have a1 : decide ((0 : Int) < ((0 : Nat) : Int)) = false := by simp
      have Fin := hide (fin 0 rfl (.inl rfl))
      clear fin hgt hG hO b1
      go_upto_region 1 with fail
      go_quiet (fail)
      have Fin2 := hide (unhide Fin _ ((Only.refl _ wr).drewO nq))
      have hG2 := (unhide HG).quiet ((Only.refl _ wr).drewO nq)
      have zi := hG2.ord 0 (by omega)
      have zn := hG2.n_
      clear Fin HG hG2 b1'
      generalize hW : wr.drewN nq = W at *
      clear hW
      go_wp2_with fail
      go_end0
      exact ⟨rfl, unhide Fin2⟩
    · obtain ⟨j, rfl⟩ : ∃ j, i = j + 1 := ⟨i - 1, by omega⟩
      have e1 : (((j + 1 : Nat) : Int) - 1) = (j : Int) := by omega
      have hoj := unhide Ho j (by omega)
      have a5 : (T.o j : Int) < 49 := by omega
      have a6 : (j : Int) < 48 := by omega
      have hsj : shO T.o (j + 1) T.n j = T.o j := by unfold shO; rw [if_neg (by omega)]
      have zj := hG.ord j (by omega)
      have zj' : wr.cell? ⟨g, 295 + j, none⟩ = some (.int .i64 (T.o j : Int)) := by
        have := zj.1
        rw [← hsj]; exact this
      have b2 := hG.com (T.o j) 1 hoj (by omega)
      have b2' : wr.cell? ⟨g, 1 + T.o j * 6 + 1, none⟩ = some (.int .i64 ((T.c (T.o j)).seq : Int)) := b2.1
      have s1 := unhide Hsq id hid
      have s2 := unhide Hsq (T.o j) hoj
      have a1 : decide ((0 : Int) < ((j + 1 : Nat) : Int)) = true := decide_eq_true (by omega)
      have a1' : decide ((0 : Int) < (j : Int) + 1) = true := decide_eq_true (by omega)
      by_cases hlt : (T.c id).seq < (T.c (T.o j)).seq
      · have a2 : decide (((T.c id).seq : Int) < ((T.c (T.o j)).seq : Int)) = true := decide_eq_true (by omega)
        have a2n : decide ((T.c id).seq < (T.c (T.o j)).seq) = true := decide_eq_true hlt
        have HP : Hid (∀ wx, Only (fun _ => False) wr wx → GH (wx.setCell ⟨g, 295 + (j + 1), none⟩ (.int .i64 (T.o j : Int))) g t { T with o := shO T.o j T.n } ∧ Only (fun y => y = g) w (wx.setCell ⟨g, 295 + (j + 1), none⟩ (.int .i64 (T.o j : Int)))) := hide (fun wx hx => by
          refine ⟨?_, (hO.trans hx (fun _ _ h => h.elim)).setCell (fun _ => rfl) _⟩
          have := (hG.quiet hx).putO (j + 1) (by omega) (T.o j)
          rw [← shO_step _ _ _ hi]
          exact this)
        have Hgt : Hid (∀ k, j ≤ k → k < T.n → (T.c id).seq < (T.c (T.o k)).seq) := hide (fun k h1 h2 => by
          by_cases e : k = j
          · rw [e]; exact hlt
          · exact hgt k (by omega) h2)
        clear fin hgt hG hO b1 b2 zj hsj
        generalize (T.c id).seq = sid at *
        generalize (T.c (T.o j)).seq = sj at *
        generalize hx : T.o j = x at *
        clear hx
        go_upto_region 1 with fail
        go_quiet (fail)
        have hG2 := (unhide HG).quiet ((Only.refl _ wr).drewO nq)
        have HP2 : Hid (∀ wx, Only (fun _ => False) (wr.drewN nq) wx → GH (wx.setCell ⟨g, 295 + (j + 1), none⟩ (.int .i64 (x : Int))) g t { T with o := shO T.o j T.n } ∧ Only (fun y => y = g) w (wx.setCell ⟨g, 295 + (j + 1), none⟩ (.int .i64 (x : Int)))) := hide (fun wx hx => unhide HP wx (((Only.refl _ wr).drewO nq).trans hx (fun _ _ h => h)))
        have zi := hG2.ord (j + 1) (by omega)
        have zj : (wr.drewN nq).cell? ⟨g, 295 + j, none⟩ = some (.int .i64 (x : Int)) := by
          have := zj'
          simpa using this
        clear HP HG hG2 b1' b2' zj'
        generalize hW : wr.drewN nq = W at *
        clear hW
        have a7 : (j : Int) + 1 < 48 := by omega
        go_upto_region 2 with fail
        go_region
        all_goals
          have HP3 := hide (unhide HP2 W (Only.refl _ _))
          have HP4 := hide ((unhide HP3).1.quiet (Only.refl (fun _ => False) _).drew)
          have HO4 := hide ((unhide HP3).2.drew)
          clear HP2 HP3
          go_wp2_with fail
          go_roundw
          case rel => exact ⟨j, by go_num, by omega, unhide Hgt, unhide HP4, unhide HO4⟩
          case measure => simp [intOf]
      · have a2 : decide (((T.c id).seq : Int) < ((T.c (T.o j)).seq : Int)) = false := decide_eq_false (by omega)
        have a2n : decide ((T.c id).seq < (T.c (T.o j)).seq) = false := decide_eq_false hlt
        have Fin := hide (fin (j + 1) rfl (.inr (by simpa using Nat.le_of_not_lt hlt)))
        clear fin hgt hG hO b1 b2 zj hsj
        generalize (T.c id).seq = sid at *
        generalize (T.c (T.o j)).seq = sj at *
        generalize hx : T.o j = x at *
        clear hx
        go_upto_region 1 with fail
        go_quiet (fail)
        have Fin2 := hide (unhide Fin _ ((Only.refl _ wr).drewO nq))
        have hG2 := (unhide HG).quiet ((Only.refl _ wr).drewO nq)
        have zi := hG2.ord (j + 1) (by omega)
        have zn := hG2.n_
        have a7 : (j : Int) + 1 < 48 := by omega
        clear Fin HG hG2 b1' b2' zj'
        generalize hW : wr.drewN nq = W at *
        clear hW
        go_wp2_with fail
        go_end0
        exact ⟨rfl, unhide Fin2⟩
/-- The object id of the commit of that Seq, or 0. -/
def fG (T : Gt) (s : Int) : Nat := match (List.range T.n).find? (fun k => decide (((T.c (T.o k)).seq : Int) = s)) with
  | some k => T.o k
  | none => 0
theorem fG_at (hO : OrdI T.c T.o T.n) {s : Int} {k : Nat} (hk : k < T.n) (he : ((T.c (T.o k)).seq : Int) = s) : fG T s = T.o k := by
  unfold fG
  cases h : (List.range T.n).find? (fun k => decide (((T.c (T.o k)).seq : Int) = s)) with
  | none =>
    rw [List.find?_eq_none] at h
    have := h k (by simpa using hk)
    simp [he] at this
  | some j =>
    have h1 := List.find?_some h
    have h2 := List.mem_of_find?_eq_some h
    simp at h1 h2
    rcases Nat.lt_trichotomy j k with hlt | heq | hgt
    · have := hO.srt j k hlt hk; omega
    · rw [heq]
    · have := hO.srt k j hgt h2; omega
theorem fG_no {s : Int} (h : ∀ k, k < T.n → ((T.c (T.o k)).seq : Int) ≠ s) : fG T s = 0 := by
  unfold fG
  have : (List.range T.n).find? (fun k => decide (((T.c (T.o k)).seq : Int) = s)) = none := by
    rw [List.find?_eq_none]
    intro k hk
    simpa using h k (by simpa using hk)
  rw [this]
set_option maxRecDepth 100000 in
set_option maxHeartbeats 4000000 in
theorem gfind_any (h : GH w g t T) (hO : OrdI T.c T.o T.n) (hsq : ∀ k, IsC T.c k → (T.c k).seq < 4611686018427387904) (s : Int) :
    Calls Tryz.prog 139 #[.pointer (some ⟨g, 0, none⟩), .int .i64 s] w fun e w' => e = .returned (.int .i64 (fG T s : Nat)) ∧ Only (fun _ => False) w w' := by
  have H0 := hide h
  have c0 := h.n_.1
  have hn := hO.n40
  have HOr := hide hO
  have Hsq := hide hsq
  clear h hO hsq
  go_enter Tryz.func139, Tryz.ntmps139
  go_upto_region 1 with fail
  go_quiet (fail)
  have O1 : Hid (Only (fun _ => False) w (w.drewN nq)) := hide ((Only.refl _ w).drewO nq)
  generalize hW : w.drewN nq = W at *
  clear hW c0
  go_wp2_with fail
  go_loopw [5, 6] (fun lv hv wr => ∃ lo hi : Nat, lv = .int .i64 lo ∧ hv = .int .i64 hi ∧ lo ≤ hi ∧ hi ≤ T.n ∧ (∀ k, k < lo → ((T.c (T.o k)).seq : Int) < s) ∧ (∀ k, hi ≤ k → k < T.n → s ≤ ((T.c (T.o k)).seq : Int)) ∧ Only (fun _ => False) w wr) (fun lv hv _ => (intOf hv - intOf lv).toNat)
  case atStart => exact ⟨0, T.n, rfl, rfl, by omega, by omega, fun k h => by omega, fun k h1 h2 => by omega, unhide O1⟩
  case round =>
    clear O1
    obtain ⟨lo, hi, rfl, rfl, hlh, hhn, hL, hH, hO⟩ := hrel
    have hG := (unhide H0).quiet hO
    by_cases hlt : lo < hi
    · have a1 : decide ((lo : Int) < (hi : Int)) = true := decide_eq_true (by omega)
      have a1n : decide (lo < hi) = true := decide_eq_true hlt
      have hm : ((lo : Int) + (hi : Int)).tdiv 2 = (((lo + hi) / 2 : Nat) : Int) := by
        rw [Int.tdiv_eq_ediv_of_nonneg (by omega)]; omega
      have hm' : ((lo : Int) + (hi : Int)) / 2 = (((lo + hi) / 2 : Nat) : Int) := by omega
      have hmb : lo ≤ (lo + hi) / 2 ∧ (lo + hi) / 2 < hi := by omega
      generalize hmid : (lo + hi) / 2 = mid at *
      have hC := (unhide HOr).oin mid (by omega)
      have hcl : T.o mid < 49 := by have := hC.1.2; omega
      have zj := (hG.ord mid (by omega)).1
      have b2 : wr.cell? ⟨g, 1 + T.o mid * 6 + 1, none⟩ = some (.int .i64 ((T.c (T.o mid)).seq : Int)) := (hG.com (T.o mid) 1 hcl (by omega)).1
      have s2 := unhide Hsq _ hC
      have a3 : (T.o mid : Int) < 49 := by omega
      have a4 : (mid : Int) < 48 := by omega
      by_cases hc : ((T.c (T.o mid)).seq : Int) < s
      · have a5 : decide (((T.c (T.o mid)).seq : Int) < s) = true := decide_eq_true hc
        have HL : Hid (∀ k, k < mid + 1 → ((T.c (T.o k)).seq : Int) < s) := hide (fun k hk => by
          by_cases e : k = mid
          · rw [e]; exact hc
          · have := (unhide HOr).srt k mid (by omega) (by omega); omega)
        have HH := hide hH
        have HO := hide hO
        clear hL hH hO hG hmid hC
        generalize (T.c (T.o mid)).seq = sj at *
        generalize T.o mid = x at *
        go_wp2_with fail
        go_upto_region 4 with fail
        go_quiet (fail)
        have O2 := hide ((unhide HO).drewO nq)
        clear HO
        generalize hW : wr.drewN nq = W2 at *
        go_wp2_with fail
        go_roundw
        case rel => exact ⟨mid + 1, hi, by go_num, rfl, by omega, hhn, unhide HL, unhide HH, unhide O2⟩
        case measure => simp [intOf]; omega
      · have a5 : decide (((T.c (T.o mid)).seq : Int) < s) = false := decide_eq_false hc
        have HL := hide hL
        have HH : Hid (∀ k, mid ≤ k → k < T.n → s ≤ ((T.c (T.o k)).seq : Int)) := hide (fun k hk hkn => by
          by_cases e : k = mid
          · rw [e]; omega
          · have := (unhide HOr).srt mid k (by omega) (by omega); omega)
        have HO := hide hO
        clear hL hH hO hG hmid hC
        generalize (T.c (T.o mid)).seq = sj at *
        generalize T.o mid = x at *
        go_wp2_with fail
        go_upto_region 4 with fail
        go_quiet (fail)
        have O2 := hide ((unhide HO).drewO nq)
        clear HO
        generalize hW : wr.drewN nq = W2 at *
        go_wp2_with fail
        go_roundw
        case rel => exact ⟨lo, mid, rfl, rfl, by omega, by omega, unhide HL, unhide HH, unhide O2⟩
        case measure => simp [intOf]; omega
    · have a1 : decide ((lo : Int) < (hi : Int)) = false := decide_eq_false (by omega)
      have a1n : decide (lo < hi) = false := decide_eq_false hlt
      have e1 : lo = hi := by omega
      subst e1
      have cn := hG.n_.1
      by_cases hln : lo < T.n
      · have a2 : decide ((lo : Int) < (T.n : Int)) = true := decide_eq_true (by omega)
        have a2n : decide (lo < T.n) = true := decide_eq_true hln
        have hC := (unhide HOr).oin lo hln
        have hcl : T.o lo < 49 := by have := hC.1.2; omega
        have zj := (hG.ord lo (by omega)).1
        have b2 : wr.cell? ⟨g, 1 + T.o lo * 6 + 1, none⟩ = some (.int .i64 ((T.c (T.o lo)).seq : Int)) := (hG.com (T.o lo) 1 hcl (by omega)).1
        have s2 := unhide Hsq _ hC
        have a3 : (T.o lo : Int) < 49 := by omega
        have a4 : (lo : Int) < 48 := by omega
        by_cases hc : ((T.c (T.o lo)).seq : Int) = s
        · have a5 : (((T.c (T.o lo)).seq : Int) == s) = true := by simpa using hc
          have HR := hide (fG_at (unhide HOr) hln hc)
          have HO := hide hO
          have HG := hide hG
          clear hL hH hO hG hC
          generalize (T.c (T.o lo)).seq = sj at *
          generalize T.o lo = x at *
          go_upto_region 7 with fail
          go_quiet (fail)
          have O2 := hide ((unhide HO).drewO nq)
          clear HO HG
          have zj2 : (wr.drewN nq).cell? ⟨g, 295 + lo, none⟩ = some (.int .i64 (x : Int)) := by simpa using zj
          generalize hW : wr.drewN nq = W2 at *
          clear hW zj b2 cn
          go_wp2_with fail
          go_ret
          rw [unhide HR]
          exact ⟨rfl, unhide O2⟩
        · have a5 : (((T.c (T.o lo)).seq : Int) == s) = false := by simpa using hc
          have HR := hide (fG_no (T := T) (s := s) (fun k hk e => by
            rcases Nat.lt_trichotomy k lo with h1 | h1 | h1
            · have := hL k h1; omega
            · exact hc (h1 ▸ e)
            · have := hH lo (by omega) hln
              have := (unhide HOr).srt lo k h1 hk
              omega))
          have HO := hide hO
          clear hL hH hO hG hC
          generalize (T.c (T.o lo)).seq = sj at *
          generalize T.o lo = x at *
          go_upto_region 7 with fail
          go_quiet (fail)
          have O2 := hide ((unhide HO).drewO nq)
          clear HO
          generalize hW : wr.drewN nq = W2 at *
          clear hW zj b2 cn
          go_wp2_with fail
          go_ret
          rw [unhide HR]
          exact ⟨rfl, unhide O2⟩
      · have a2 : decide ((lo : Int) < (T.n : Int)) = false := decide_eq_false (by omega)
        have a2n : decide (lo < T.n) = false := decide_eq_false hln
        have HR := hide (fG_no (T := T) (s := s) (fun k hk e => by have := hL k (by omega); omega))
        have HO := hide hO
        clear hL hH hO hG
        go_upto_region 7 with fail
        go_quiet (fail)
        have O2 := hide ((unhide HO).drewO nq)
        clear HO
        generalize hW : wr.drewN nq = W2 at *
        clear hW cn
        go_wp2_with fail
        go_ret
        rw [unhide HR]
        exact ⟨rfl, unhide O2⟩
set_option maxRecDepth 100000 in
theorem gseqOf_any (h : GH w g t T) (id : Nat) (hid : id < 49) (h0 : T.c 0 = Cr.zero) :
    Calls Tryz.prog 132 #[.pointer (some ⟨g, 0, none⟩), .int .i64 id] w fun e w' => e = .returned (.int .i64 ((T.c id).seq : Nat)) ∧ w = w' := by
  by_cases e : id = 0
  · subst e
    rw [h0]
    clear h
    go_enter Tryz.func132, Tryz.ntmps132
    go_wp2_with fail
    go_ret
    exact ⟨rfl, rfl⟩
  · have c : w.cell? ⟨g, 1 + id * 6 + 1, none⟩ = some (.int .i64 ((T.c id).seq : Int)) := (h.com id 1 hid (by omega)).1
    have a1 : decide ((id : Int) < 1) = false := decide_eq_false (by omega)
    have a2 : decide ((48 : Int) < (id : Int)) = false := decide_eq_false (by omega)
    have a3 : (id : Int) < 49 := by omega
    clear h
    go_enter Tryz.func132, Tryz.ntmps132
    go_wp2_with fail
    go_ret
    exact ⟨rfl, rfl⟩
end
end Go.Proofs.Qxb6500417aGreat
