/-
  OWN WORK. THE TREE: tally, key.
-/
import Derived.Test.Qxb6500417aGreatTMem
namespace Go.Proofs.Qxb6500417aGreat
open Go.RowKit Go.PlainAid
set_option linter.unusedSimpArgs false
set_option linter.unusedVariables false

/-- A slice of bytes that a tree's rows may be read from. -/
def Capd (v : Value) : Prop := ∀ g n cap, v = .slice (some ⟨g, 0, none⟩) n cap → n ≤ cap ∧ cap ≤ 9223372036854775807
section
variable {w : World} {t s : Nat} {kd : Nat → Nat} {ct : Nat → Int}
def ctAdd (ct : Nat → Int) (d : Int) (rs : List Rw) : Nat → Int := fun i => ct i + d * (occ rs i : Int)
theorem encs_ge (l : List Rw) : l.length * 3 ≤ (encs l).length := by
  induction l with
  | nil => simp
  | cons a r ih => rw [encs_cons, List.length_append, enc_len, List.length_cons]; omega
set_option maxRecDepth 100000 in
set_option maxHeartbeats 4000000 in
theorem tally_any (h : TAt w t s kd ct) {v : Value} {rs : List Rw} (hb : BytesAt w v (encs rs).length (dF (encs rs))) (hcp : Capd v) (hw : ∀ r ∈ rs, WfR r) (hl : (encs rs).length ≤ 1000) (d : Int) (hd : d = 1 ∨ d = -1) (hct : ∀ i, i < 49 → -100000 ≤ ct i ∧ ct i ≤ 100000) :
    Calls Tryz.prog 130 #[.pointer (some ⟨t, 0, none⟩), v, .int .i64 d] w fun e w' => e = .returned (.tuple #[]) ∧ TAt w' t s kd (ctAdd ct d rs) ∧ Only (fun k => k = t) w w' := by
  have C1 := hide (rows_any hb hw hl hcp)
  have hrl : rs.length ≤ 1000 := by have := encs_ge rs; omega
  have H := hide h
  have Hw := hide hw
  have Hct := hide hct
  clear h hb hw hct hcp
  go_enter Tryz.func130, Tryz.ntmps130
  go_wp2_with fail
  refine (unhide C1).mono ?_
  rintro e w1 ⟨v', rfl, hR⟩
  obtain ⟨ra, rc, rfl, hcell⟩ := hR.own.in_
  have h1 := (unhide H).keep hR.ho (fun h => h)
  have H1 := hide h1
  have Hcell := hide hcell
  have O1 := hide hR.ho
  have Hty : Hid (∀ g, ra = some ⟨g, 0, none⟩ → ∃ c, Has w1 g c 194) := hide (fun g e => by
    subst e
    rcases hR.own.2 with ⟨he, _⟩ | ⟨g', cap', cur, he, _, hh, _⟩
    · simp at he
    · obtain ⟨rfl, _⟩ : g = g' ∧ rc = cap' := by simpa using he
      exact ⟨cur, hh⟩)
  clear C1 hR h1 hcell H
  go_wp2_with fail
  go_loopw [7] (fun iv wr => ∃ k : Nat, iv = .int .i64 k ∧ k ≤ rs.length ∧ TAt wr t s kd (ctAdd ct d (rs.take k)) ∧ Only (fun y => y = t) w1 wr) (fun iv _ => rs.length - (intOf iv).toNat)
  case atStart => exact ⟨0, rfl, by omega, (unhide H1).congr (fun _ _ => rfl) (fun i hi => by simp [ctAdd, occ]), Only.refl _ _⟩
  case round =>
    obtain ⟨k, rfl, hk, hT, ho⟩ := hrel
    by_cases hkl : k < rs.length
    · obtain ⟨g, rfl, hc⟩ := unhide Hcell (by omega)
      obtain ⟨_, _, c2, _⟩ := hc k hkl
      have hwf := unhide Hw rs[k] (List.getElem_mem hkl)
      have i1 := hwf.i1
      have i48 := hwf.i48
      obtain ⟨cg, hgh⟩ := unhide Hty g rfl
      have hgt : g ≠ t := Has.ne hgh (unhide H1) (by decide)
      have hgl := hgh.lt
      have hos := ho.size
      have c2 := (World.cell?_of_block (ho.block g hgl hgt)).trans c2
      have hgw : g < wr.heap.size := by omega
      have htw := Has.lt hT
      have q := hT.count rs[k].id (by omega)
      have hsn : rs.take (k + 1) = rs.take k ++ [rs[k]] := List.take_succ_eq_append_getElem hkl
      have hN := hT.setCount rs[k].id (by omega) (ctAdd ct d (rs.take k) rs[k].id + d)
      have hcg : TAt (wr.setCell ⟨t, 50 + rs[k].id, none⟩ (.int .i64 (ctAdd ct d (rs.take k) rs[k].id + d))) t s kd (ctAdd ct d (rs.take (k + 1))) := hN.congr (fun _ _ => rfl) (fun i hi => by
        rw [hsn]
        unfold ctAdd updT
        rw [occ_snoc]
        by_cases e : i = rs[k].id
        · rw [if_pos e, if_pos e.symm, e]
          rcases hd with hd | hd <;> subst hd <;> push_cast <;> omega
        · rw [if_neg e, if_neg (fun e' => e e'.symm)]
          simp)
      have hoc := occ_le (rs.take k) rs[k].id
      have hbd : -200000 ≤ ctAdd ct d (rs.take k) rs[k].id ∧ ctAdd ct d (rs.take k) rs[k].id ≤ 200000 := by
        have h1 := unhide Hct rs[k].id (by omega)
        have h2 : (rs.take k).length ≤ 1000 := by rw [List.length_take]; omega
        unfold ctAdd
        rcases hd with hd | hd <;> subst hd <;> omega
      have HN := hide hcg
      have HO := hide (ho.trans (only1 (w := wr) (p := t) (50 + rs[k].id) (.int .i64 (ctAdd ct d (rs.take k) rs[k].id + d))) (fun _ _ h => h))
      obtain ⟨q1, q2⟩ := q
      have hdb : -1 ≤ d ∧ d ≤ 1 := by omega
      clear hT ho hN hcg hsn hwf hgh hoc hd
      generalize ctAdd ct d (rs.take k) rs[k].id = x at *
      generalize rs[k].id = ri at *
      have a1 : decide ((k : Int) < (rs.length : Int)) = true := decide_eq_true (by omega)
      have a1n : decide (k < rs.length) = true := decide_eq_true hkl
      have a2 : (k : Int) < (rs.length : Int) := by omega
      have a3 : (ri : Int) < 49 := by omega
      have wr1 : IntKind.i64.wrap (x + d) = x + d := by rw [IntKind.wrap_i64]; omega
      go_upto_region 4 with fail
      go_region
      all_goals
        go_wp2_with fail
        go_roundw
        case rel => exact ⟨k + 1, by go_num, by omega, unhide HN, (unhide HO).drew⟩
        case measure => simp [intOf]; omega
    · have a1 : decide ((k : Int) < (rs.length : Int)) = false := decide_eq_false (by omega)
      have a1n : decide (k < rs.length) = false := decide_eq_false hkl
      have e1 : k = rs.length := by omega
      rw [e1, List.take_length] at hT
      have RR := hide (And.intro hT (((unhide O1).mono (T := fun y => y = t) (fun _ _ h => h.elim)).trans ho (fun _ _ h => h)))
      clear hT ho e1
      go_wp2_with fail
      go_end0
      exact ⟨rfl, unhide RR⟩
end
end Go.Proofs.Qxb6500417aGreat
