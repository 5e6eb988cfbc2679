/-
  OWN WORK. THE INDEX's POOL: its memory; partEnd, keyOf, hashOf, childOf.
-/
import Derived.Test.Qxb6500418aILay
import Derived.Laws.BitsLemmas
namespace Go.Proofs.Qxb6500418a
open Go.RowKit Go.PlainAid
set_option linter.unusedSimpArgs false
set_option linter.unusedVariables false

def tabV (n : Nat) (f : Nat → Value) : Array Value := ((List.range n).map f).toArray
theorem tabV_size (n : Nat) (f : Nat → Value) : (tabV n f).size = n := by simp [tabV]
theorem tabV_get (n : Nat) (f : Nat → Value) (i : Nat) (h : i < n) : (tabV n f)[i]? = some (f i) := by simp [tabV, h]
theorem tabV_congr (n : Nat) {f g : Nat → Value} (h : ∀ i, i < n → f i = g i) : tabV n f = tabV n g := by
  unfold tabV
  congr 1
  apply List.map_congr_left
  intro i hi
  exact h i (List.mem_range.1 hi)
theorem tabV_set (n : Nat) (f : Nat → Value) (i : Nat) (v : Value) : (tabV n f).setIfInBounds i v = tabV n (fun j => if j = i then v else f j) := by
  apply Array.ext'
  rw [Array.toList_setIfInBounds]
  unfold tabV
  apply List.ext_getElem (by simp)
  intro j h1 h2
  simp at h1 h2
  simp only [List.getElem_set, List.getElem_map, List.getElem_range]
  by_cases e : i = j
  · subst e; simp
  · have e' : ¬ j = i := fun h => e h.symm
    simp [e, e']
def updT {α : Type} (f : Nat → α) (i : Nat) (x : α) : Nat → α := fun j => if j = i then x else f j
theorem updT_same {α : Type} (f : Nat → α) (i : Nat) (x : α) : updT f i x i = x := by simp [updT]
theorem updT_other {α : Type} (f : Nat → α) (i j : Nat) (x : α) (h : j ≠ i) : updT f i x j = f j := by simp [updT, h]
theorem ne_intO {a b : Int} (h : a ≠ b) : (a == b) = false := by simpa using h

abbrev st (l : Str) : ByteArray := ⟨l.toArray⟩
theorem ls_st (l : Str) : ls (st l) = l := by simp [ls]
theorem st_ls (s : ByteArray) : st (ls s) = s := ls_inj (ls_st _)
theorem st_size (l : Str) : (st l).size = l.length := by rw [← ls_len, ls_st]
def ndCell (e : Nd) : Nat → Value
  | 0 => .string (st e.name)
  | 1 => .int .i64 (e.child : Int)
  | 2 => .int .i64 (e.next : Int)
  | 3 => .bool e.file
  | 4 => .string (st e.data)
  | 5 => .int .i64 e.mode
  | 6 => .int .i64 (e.size : Int)
  | _ => .int .i64 (e.hash : Int)
def icell (P : Nat → Nd) (fr fi : Nat) (off : Nat) : Value := if off < 392 then ndCell (P (off / 8)) (off % 8) else if off = 392 then .int .i64 (fr : Int) else .int .i64 (fi : Int)
def IAt (w : World) (x : Nat) (P : Nat → Nd) (fr fi : Nat) : Prop := Has w x (tabV 394 (icell P fr fi)) 49

section
variable {w : World} {x : Nat} {P : Nat → Nd} {fr fi : Nat}
theorem icell_nd (i f : Nat) (hi : i < 49) (hf : f < 8) : icell P fr fi (i * 8 + f) = ndCell (P i) f := by
  unfold icell
  rw [if_pos (by omega)]
  have e1 : (i * 8 + f) / 8 = i := by omega
  have e2 : (i * 8 + f) % 8 = f := by omega
  rw [e1, e2]
theorem IAt.nd (h : IAt w x P fr fi) (i f : Nat) (hi : i < 49) (hf : f < 8) : w.cell? ⟨x, i * 8 + f, none⟩ = some (ndCell (P i) f) ∧ w.frozen? ⟨x, i * 8 + f, none⟩ = false := by
  refine ⟨?_, Has.free h _⟩
  rw [Has.cell h, tabV_get _ _ _ (by omega), icell_nd i f hi hf]
theorem IAt.all (h : IAt w x P fr fi) (i : Nat) (hi : i < 49) : (w.cell? ⟨x, i * 8, none⟩ = some (.string (st (P i).name)) ∧ w.frozen? ⟨x, i * 8, none⟩ = false) ∧ (w.cell? ⟨x, i * 8 + 1, none⟩ = some (.int .i64 ((P i).child : Int)) ∧ w.frozen? ⟨x, i * 8 + 1, none⟩ = false) ∧ (w.cell? ⟨x, i * 8 + 2, none⟩ = some (.int .i64 ((P i).next : Int)) ∧ w.frozen? ⟨x, i * 8 + 2, none⟩ = false) ∧ (w.cell? ⟨x, i * 8 + 3, none⟩ = some (.bool (P i).file) ∧ w.frozen? ⟨x, i * 8 + 3, none⟩ = false) ∧
    (w.cell? ⟨x, i * 8 + 4, none⟩ = some (.string (st (P i).data)) ∧ w.frozen? ⟨x, i * 8 + 4, none⟩ = false) ∧ (w.cell? ⟨x, i * 8 + 5, none⟩ = some (.int .i64 (P i).mode) ∧ w.frozen? ⟨x, i * 8 + 5, none⟩ = false) ∧ (w.cell? ⟨x, i * 8 + 6, none⟩ = some (.int .i64 ((P i).size : Int)) ∧ w.frozen? ⟨x, i * 8 + 6, none⟩ = false) ∧ (w.cell? ⟨x, i * 8 + 7, none⟩ = some (.int .i64 ((P i).hash : Int)) ∧ w.frozen? ⟨x, i * 8 + 7, none⟩ = false) :=
  ⟨h.nd i 0 hi (by omega), h.nd i 1 hi (by omega), h.nd i 2 hi (by omega), h.nd i 3 hi (by omega), h.nd i 4 hi (by omega), h.nd i 5 hi (by omega), h.nd i 6 hi (by omega), h.nd i 7 hi (by omega)⟩
theorem IAt.nm (h : IAt w x P fr fi) (i : Nat) (hi : i < 49) : w.cell? ⟨x, i * 8, none⟩ = some (.string (st (P i).name)) := (h.all i hi).1.1
theorem IAt.ch (h : IAt w x P fr fi) (i : Nat) (hi : i < 49) : w.cell? ⟨x, i * 8 + 1, none⟩ = some (.int .i64 ((P i).child : Int)) := (h.all i hi).2.1.1
theorem IAt.nx (h : IAt w x P fr fi) (i : Nat) (hi : i < 49) : w.cell? ⟨x, i * 8 + 2, none⟩ = some (.int .i64 ((P i).next : Int)) := (h.all i hi).2.2.1.1
theorem IAt.fl (h : IAt w x P fr fi) (i : Nat) (hi : i < 49) : w.cell? ⟨x, i * 8 + 3, none⟩ = some (.bool (P i).file) := (h.all i hi).2.2.2.1.1
theorem IAt.da (h : IAt w x P fr fi) (i : Nat) (hi : i < 49) : w.cell? ⟨x, i * 8 + 4, none⟩ = some (.string (st (P i).data)) := (h.all i hi).2.2.2.2.1.1
theorem IAt.mo (h : IAt w x P fr fi) (i : Nat) (hi : i < 49) : w.cell? ⟨x, i * 8 + 5, none⟩ = some (.int .i64 (P i).mode) := (h.all i hi).2.2.2.2.2.1.1
theorem IAt.sz (h : IAt w x P fr fi) (i : Nat) (hi : i < 49) : w.cell? ⟨x, i * 8 + 6, none⟩ = some (.int .i64 ((P i).size : Int)) := (h.all i hi).2.2.2.2.2.2.1.1
theorem IAt.hs (h : IAt w x P fr fi) (i : Nat) (hi : i < 49) : w.cell? ⟨x, i * 8 + 7, none⟩ = some (.int .i64 ((P i).hash : Int)) := (h.all i hi).2.2.2.2.2.2.2.1
theorem IAt.fz (h : IAt w x P fr fi) (j : Nat) : w.frozen? ⟨x, j, none⟩ = false := Has.free h _
theorem IAt.free_ (h : IAt w x P fr fi) : w.cell? ⟨x, 392, none⟩ = some (.int .i64 (fr : Int)) ∧ w.frozen? ⟨x, 392, none⟩ = false := by
  refine ⟨?_, Has.free h _⟩
  rw [Has.cell h, tabV_get _ _ _ (by omega)]; rfl
theorem IAt.files_ (h : IAt w x P fr fi) : w.cell? ⟨x, 393, none⟩ = some (.int .i64 (fi : Int)) ∧ w.frozen? ⟨x, 393, none⟩ = false := by
  refine ⟨?_, Has.free h _⟩
  rw [Has.cell h, tabV_get _ _ _ (by omega)]; rfl
theorem IAt.keep {S : Nat → Prop} {w' : World} (h : IAt w x P fr fi) (ho : Only S w w') (hS : ¬ S x) : IAt w' x P fr fi := Has.keep h ho hS
theorem IAt.lt (h : IAt w x P fr fi) : x < w.heap.size := Has.lt h
theorem icell_eq {P' : Nat → Nd} {fr' fi' : Nat} (j : Nat) (hj : j < 394) (h1 : ∀ a b, a < 49 → b < 8 → j = a * 8 + b → ndCell (P a) b = ndCell (P' a) b) (h2 : j = 392 → fr = fr') (h3 : j = 393 → fi = fi') : icell P fr fi j = icell P' fr' fi' j := by
  unfold icell
  by_cases e : j < 392
  · rw [if_pos e, if_pos e]
    exact h1 (j / 8) (j % 8) (by omega) (by omega) (by omega)
  · rw [if_neg e, if_neg e]
    by_cases e1 : j = 392
    · rw [if_pos e1, if_pos e1, h2 e1]
    · rw [if_neg e1, if_neg e1, h3 (by omega)]
theorem IAt.set (h : IAt w x P fr fi) (i f : Nat) (hi : i < 49) (hf : f < 8) (e : Nd) (v : Value) (hv : ndCell e f = v) (ho : ∀ g, g < 8 → g ≠ f → ndCell e g = ndCell (P i) g) : IAt (w.setCell ⟨x, i * 8 + f, none⟩ v) x (updT P i e) fr fi := by
  have := Has.setCell h (i * 8 + f) v
  rw [tabV_set] at this
  unfold IAt
  rw [tabV_congr 394 (g := icell (updT P i e) fr fi)] at this
  · exact this
  · intro j hj
    by_cases ej : j = i * 8 + f
    · subst ej; rw [if_pos rfl, icell_nd i f hi hf, updT_same, hv]
    · rw [if_neg ej]
      refine icell_eq j hj (fun a b ha hb hab => ?_) (fun _ => rfl) (fun _ => rfl)
      by_cases ea : a = i
      · subst ea
        rw [updT_same, ho b hb (fun e => ej (by rw [hab, e]))]
      · rw [updT_other _ _ _ _ ea]
theorem IAt.setFree (h : IAt w x P fr fi) (v : Nat) : IAt (w.setCell ⟨x, 392, none⟩ (.int .i64 (v : Int))) x P v fi := by
  have := Has.setCell h 392 (.int .i64 (v : Int))
  rw [tabV_set] at this
  unfold IAt
  rw [tabV_congr 394 (g := icell P v fi)] at this
  · exact this
  · intro j hj
    by_cases e : j = 392
    · subst e; rfl
    · rw [if_neg e]; exact icell_eq j hj (fun _ _ _ _ _ => rfl) (fun h => absurd h e) (fun _ => rfl)
theorem IAt.setFiles (h : IAt w x P fr fi) (v : Nat) : IAt (w.setCell ⟨x, 393, none⟩ (.int .i64 (v : Int))) x P fr v := by
  have := Has.setCell h 393 (.int .i64 (v : Int))
  rw [tabV_set] at this
  unfold IAt
  rw [tabV_congr 394 (g := icell P fr v)] at this
  · exact this
  · intro j hj
    by_cases e : j = 393
    · subst e; rfl
    · rw [if_neg e]; exact icell_eq j hj (fun _ _ _ _ _ => rfl) (fun _ => rfl) (fun h => absurd h e)
theorem IAt.setChild (h : IAt w x P fr fi) (i : Nat) (hi : i < 49) (v : Nat) : IAt (w.setCell ⟨x, i * 8 + 1, none⟩ (.int .i64 (v : Int))) x (updT P i { P i with child := v }) fr fi :=
  h.set i 1 hi (by omega) _ _ rfl (fun g hg hne => by
    match g, hg with
    | 0, _ => rfl
    | 1, _ => exact absurd rfl hne
    | 2, _ => rfl
    | 3, _ => rfl
    | 4, _ => rfl
    | 5, _ => rfl
    | 6, _ => rfl
    | 7, _ => rfl)
theorem IAt.setNext (h : IAt w x P fr fi) (i : Nat) (hi : i < 49) (v : Nat) : IAt (w.setCell ⟨x, i * 8 + 2, none⟩ (.int .i64 (v : Int))) x (updT P i { P i with next := v }) fr fi :=
  h.set i 2 hi (by omega) _ _ rfl (fun g hg hne => by
    match g, hg with
    | 0, _ => rfl
    | 1, _ => rfl
    | 2, _ => exact absurd rfl hne
    | 3, _ => rfl
    | 4, _ => rfl
    | 5, _ => rfl
    | 6, _ => rfl
    | 7, _ => rfl)
theorem IAt.congr {P' : Nat → Nd} (h : IAt w x P fr fi) (he : ∀ i, i < 49 → P' i = P i) : IAt w x P' fr fi := by
  unfold IAt at h ⊢
  rw [tabV_congr 394 (g := icell P fr fi)]
  · exact h
  · intro j hj
    exact icell_eq j hj (fun a b ha hb _ => by rw [he a ha]) (fun _ => rfl) (fun _ => rfl)
theorem updT_updT {α : Type} (f : Nat → α) (i : Nat) (a b : α) : updT (updT f i a) i b = updT f i b := by
  funext j
  unfold updT
  by_cases e : j = i
  · simp [e]
  · simp [e]
/-- A whole node is laid. -/
theorem IAt.put (h : IAt w x P fr fi) (i : Nat) (hi : i < 49) (e : Nd) :
    IAt ((((((((w.setCell ⟨x, i * 8, none⟩ (.string (st e.name))).setCell ⟨x, i * 8 + 1, none⟩ (.int .i64 (e.child : Int))).setCell ⟨x, i * 8 + 2, none⟩ (.int .i64 (e.next : Int))).setCell ⟨x, i * 8 + 3, none⟩ (.bool e.file)).setCell ⟨x, i * 8 + 4, none⟩ (.string (st e.data))).setCell ⟨x, i * 8 + 5, none⟩ (.int .i64 e.mode)).setCell ⟨x, i * 8 + 6, none⟩ (.int .i64 (e.size : Int))).setCell ⟨x, i * 8 + 7, none⟩ (.int .i64 (e.hash : Int))) x (updT P i e) fr fi := by
  have := (((((((Has.setCell h (i * 8) (.string (st e.name))).setCell (i * 8 + 1) (.int .i64 (e.child : Int))).setCell (i * 8 + 2) (.int .i64 (e.next : Int))).setCell (i * 8 + 3) (.bool e.file)).setCell (i * 8 + 4) (.string (st e.data))).setCell (i * 8 + 5) (.int .i64 e.mode)).setCell (i * 8 + 6) (.int .i64 (e.size : Int))).setCell (i * 8 + 7) (.int .i64 (e.hash : Int))
  simp only [tabV_set] at this
  unfold IAt
  rw [tabV_congr 394 (g := icell (updT P i e) fr fi)] at this
  · exact this
  · intro j hj
    have hat : ∀ b, b < 8 → icell (updT P i e) fr fi (i * 8 + b) = ndCell e b := fun b hb => by rw [icell_nd i b hi hb, updT_same]
    by_cases e7 : j = i * 8 + 7
    · subst e7; rw [if_pos rfl, hat 7 (by omega)]; rfl
    · rw [if_neg e7]
      by_cases e6 : j = i * 8 + 6
      · subst e6; rw [if_pos rfl, hat 6 (by omega)]; rfl
      · rw [if_neg e6]
        by_cases e5 : j = i * 8 + 5
        · subst e5; rw [if_pos rfl, hat 5 (by omega)]; rfl
        · rw [if_neg e5]
          by_cases e4 : j = i * 8 + 4
          · subst e4; rw [if_pos rfl, hat 4 (by omega)]; rfl
          · rw [if_neg e4]
            by_cases e3 : j = i * 8 + 3
            · subst e3; rw [if_pos rfl, hat 3 (by omega)]; rfl
            · rw [if_neg e3]
              by_cases e2 : j = i * 8 + 2
              · subst e2; rw [if_pos rfl, hat 2 (by omega)]; rfl
              · rw [if_neg e2]
                by_cases e1 : j = i * 8 + 1
                · subst e1; rw [if_pos rfl, hat 1 (by omega)]; rfl
                · rw [if_neg e1]
                  by_cases e0 : j = i * 8
                  · subst e0; rw [if_pos rfl]
                    have := hat 0 (by omega)
                    rw [Nat.add_zero] at this
                    rw [this]; rfl
                  · rw [if_neg e0]
                    refine icell_eq j hj (fun a b ha hb hab => ?_) (fun _ => rfl) (fun _ => rfl)
                    rw [updT_other _ _ _ _ (by intro e; subst e; omega)]
end

set_option maxRecDepth 100000 in
theorem partEnd_any (p : ByteArray) (at_ : Nat) (n rest : Str) (hd : (ls p).drop at_ = n ++ rest) (h47 : (47 : UInt8) ∉ n) (hr : rest = [] ∨ ∃ r, rest = 47 :: r) (hat : at_ ≤ p.size) (hsz : p.size ≤ 1000000) (w : World) :
    Calls Try.prog 55 #[.string p, .int .i64 at_] w fun e w' => e = .returned (.int .i64 ((at_ + n.length : Nat) : Int)) ∧ w = w' := by
  have hb := get_bt p
  have hlen : at_ + n.length ≤ p.size := by
    have := congrArg List.length hd
    rw [List.length_drop, ls_len, List.length_append] at this
    omega
  have Hd := hide hd
  have H47 := hide h47
  have Hr := hide hr
  clear hd h47 hr
  go_enter Try.func55, Try.ntmps55
  go_wp2_with fail
  go_loop [1] (fun iv => ∃ i : Nat, i ≤ n.length ∧ iv = .int .i64 ((at_ + i : Nat) : Int)) (fun iv => (at_ + n.length) - (intOf iv).toNat)
  case atStart => exact ⟨0, by omega, rfl⟩
  case round =>
    obtain ⟨i, hi, rfl⟩ := hrel
    have hdi : (ls p).drop (at_ + i) = n.drop i ++ rest := by
      rw [← List.drop_drop, unhide Hd, List.drop_append_of_le_length hi]
    by_cases hin : i < n.length
    · obtain ⟨c, hc, hd2⟩ := ls_at p (at_ + i) (by omega)
      rw [List.drop_eq_getElem_cons hin, List.cons_append, hd2] at hdi
      have hcn : c ∈ n := by
        have : c = n[i] := (List.cons.inj hdi).1
        rw [this]; exact List.getElem_mem hin
      have hc47 : c ≠ 47 := fun e => unhide H47 (e ▸ hcn)
      have e2 : (bt p (at_ + i) == 47) = false := by
        rw [hc]
        have := ne_byte (c := c) (n := 47) (by omega)
        rw [decide_eq_false (by simpa using hc47)] at this
        exact this
      have a1 : decide (((at_ + i : Nat) : Int) < (p.size : Int)) = true := by simp; omega
      have a2 : ((at_ + i : Nat) : Int) < (p.size : Int) := by omega
      have e3 : (bt p (at_ + i) != 47) = true := by simpa using e2
      clear hdi hd2 hcn hc47 hc e2
      generalize hj : at_ + i = j at *
      have Hj := hide hj
      clear hj
      go_wp2_with fail
      go_round
      case rel => exact ⟨i + 1, by omega, by have := unhide Hj; rw [show at_ + (i + 1) = j + 1 by omega]; go_num⟩
      case measure => have := unhide Hj; simp [intOf]; omega
    · obtain rfl : i = n.length := by omega
      rw [List.drop_length, List.nil_append] at hdi
      generalize hj : at_ + n.length = j at *
      rcases unhide Hr with e | ⟨r, e⟩
      · rw [e] at hdi
        have hj2 : j = p.size := by
          have := congrArg List.length hdi
          rw [List.length_drop, ls_len] at this
          simp at this
          omega
        have a1 : decide ((j : Int) < (p.size : Int)) = false := by simp; omega
        have a1' : ¬ j < p.size := by omega
        clear hdi e hj2
        go_wp2_with fail
        go_ret
        exact ⟨rfl, rfl⟩
      · rw [e] at hdi
        have hj2 : j < p.size := by
          have := congrArg List.length hdi
          rw [List.length_drop, ls_len] at this
          simp at this
          omega
        obtain ⟨c, hc, hd2⟩ := ls_at p j hj2
        rw [hd2] at hdi
        have hc47 : c = 47 := (List.cons.inj hdi).1
        have e2 : (bt p j != 47) = false := by rw [hc, hc47]; rfl
        have a1 : decide ((j : Int) < (p.size : Int)) = true := by simp; omega
        have a2 : (j : Int) < (p.size : Int) := by omega
        clear hdi e hd2 hc47 hc
        go_wp2_with fail
        go_ret
        exact ⟨rfl, rfl⟩

theorem st_cat (n : Str) : st n ++ (⟨#[47]⟩ : ByteArray) = st (n ++ [47]) := ls_inj (by rw [ls_cat, ls_st, ls_st]; rfl)
theorem keyOf_any (n : Str) (file : Bool) (hn : n.length ≤ 1000000) (w : World) :
    Calls Try.prog 52 #[.string (st n), .bool file] w fun e w' => e = .returned (.string (st (keyF n file))) ∧ w = w' := by
  have h1 : binOp .add 9 (.string (st n)) (.string ⟨#[47]⟩) = pure (.string (st (n ++ [47]))) := by
    rw [← st_cat]
    have hz := st_size n
    simp [binOp, Op.stringOp]
    intro h
    have : (ByteArray.mk #[47]).size = 1 := rfl
    exfalso
    omega
  cases file with
  | true =>
    go_enter Try.func52, Try.ntmps52
    go_wp2_with fail
    go_ret
    exact ⟨rfl, rfl⟩
  | false =>
    go_enter Try.func52, Try.ntmps52
    go_wp2_with fail
    go_ret
    exact ⟨rfl, rfl⟩

theorem and16 (n : Int) : bits .and .i64 n 65535 = n % 65536 := by
  have hm : (BitVec.ofInt 64 65535).toNat = 2 ^ 16 - 1 := by decide
  have hk : (BitVec.ofInt 64 n &&& BitVec.ofInt 64 65535).toNat = (n % ((2 ^ 64 : Nat) : Int)).toNat % 2 ^ 16 := by
    rw [BitVec.toNat_and, BitVec.toNat_ofInt, hm, Nat.and_two_pow_sub_one_eq_mod]
  show IntKind.i64.wrap ((BitVec.ofInt 64 n &&& BitVec.ofInt 64 65535).toNat : Nat) = n % 65536
  rw [hk, IntKind.wrap_i64]
  omega
theorem hash_and (h b : Nat) : ((h * 31 + b : Nat) : Int) % 65536 = ((((h * 31 + b) % 65536 : Nat)) : Int) := by omega
theorem hashL_lt (d : Str) : hashL d < 65536 := by
  unfold hashL
  have : ∀ (l : Str) (a : Nat), a < 65536 → l.foldl (fun h b => (h * 31 + b.toNat) % 65536) a < 65536 := by
    intro l
    induction l with
    | nil => intro a h; exact h
    | cons c l ih => intro a _; exact ih _ (Nat.mod_lt _ (by omega))
  exact this d 0 (by omega)
theorem hashL_take (s : ByteArray) (i : Nat) (c : UInt8) (hc : (ls s).drop i = c :: (ls s).drop (i + 1)) : hashL ((ls s).take (i + 1)) = (hashL ((ls s).take i) * 31 + c.toNat) % 65536 := by
  have hi : (ls s)[i]? = some c := by
    have := congrArg (fun l => l[0]?) hc
    simpa using this
  rw [List.take_add_one, hi]
  unfold hashL
  simp [List.foldl_append]

set_option maxRecDepth 100000 in
theorem hashOf_any (s : ByteArray) (hsz : s.size ≤ 9223372036854775807) (w : World) :
    Calls Try.prog 53 #[.string s] w fun e w' => e = .returned (.int .i64 (hashL (ls s) : Nat)) ∧ w = w' := by
  have hb := get_bt s
  go_enter Try.func53, Try.ntmps53
  go_wp2_with fail
  go_loop [3, 4] (fun hv iv => ∃ i : Nat, i ≤ s.size ∧ iv = .int .i64 i ∧ hv = .int .i64 (hashL ((ls s).take i) : Nat)) (fun _ iv => s.size - (intOf iv).toNat)
  case atStart => exact ⟨0, by omega, rfl, rfl⟩
  case round =>
    obtain ⟨i, hi, rfl, rfl⟩ := hrel
    by_cases hin : i < s.size
    · obtain ⟨c, hc, hd⟩ := ls_at s i hin
      have hnx := hashL_take s i c hd
      have hlt := hashL_lt ((ls s).take i)
      have hcr : (c.toNat : Int) ≤ 255 := by have := c.toNat_lt; omega
      have a1 : decide ((i : Int) < (s.size : Int)) = true := by simp; omega
      have a2 : (i : Int) < (s.size : Int) := by omega
      have hbn := bt_nonneg s i
      have hbl := bt_le s i
      have Hnx := hide hnx
      have Hc := hide hc
      generalize hashL ((ls s).take i) = h at *
      clear hnx hd hc hcr
      have h31 : (h : Int) * 31 ≤ 2031585 := by omega
      have hand : bits BinOp.and IntKind.i64 ((h : Int) * 31 + bt s i) 65535 = (((h * 31 + c.toNat) % 65536 : Nat) : Int) := by
        have hc255 := c.toNat_lt
        rw [and16, unhide Hc]
        omega
      have Hand := hide hand
      clear hand
      go_wp2_with fail
      go_round
      case rel => exact ⟨i + 1, by omega, by go_num, by rw [unhide Hnx, unhide Hand]⟩
      case measure => simp [intOf]; omega
    · obtain rfl : i = s.size := by omega
      have a1 : decide ((s.size : Int) < (s.size : Int)) = false := by simp
      have he : (ls s).take s.size = ls s := by rw [← ls_len]; exact List.take_length
      have He := hide he
      clear he
      go_wp2_with fail
      go_ret
      rw [unhide He]
      exact ⟨rfl, rfl⟩
end Go.Proofs.Qxb6500418a
