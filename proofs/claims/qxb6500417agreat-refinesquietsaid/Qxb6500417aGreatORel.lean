/-
  OWN WORK. THE OBJECT STORE: claim, release.
-/
import Derived.Test.Qxb6500417aGreatOChain
namespace Go.Proofs.Qxb6500417aGreat
open Go.RowKit
set_option linter.unusedSimpArgs false
set_option linter.unusedVariables false

def markL (us : Nat → Nat) (ch : List Nat) (on : Bool) : Nat → Nat := ch.foldl (fun u b => markW u b on) us
theorem markL_take (us : Nat → Nat) (ch : List Nat) (on : Bool) (i : Nat) (hi : i < ch.length) : markL us (ch.take (i + 1)) on = markW (markL us (ch.take i) on) (ch.getD i 0) on := by
  unfold markL
  rw [List.take_add_one, List.getElem?_eq_getElem hi, List.foldl_append]
  simp [List.getD_eq_getElem?_getD, List.getElem?_eq_getElem hi]
theorem markL_ok {us : Nat → Nat} (h : wordsOk us) (on : Bool) : ∀ (ch : List Nat), (∀ b ∈ ch, b < 145) → wordsOk (markL us ch on) := by
  intro ch
  induction ch generalizing us with
  | nil => intro _; exact h
  | cons a r ih =>
    intro hb
    exact ih (markW_ok h a (hb a (by simp)) on) (fun b hb' => hb b (by simp [hb']))
theorem markL_bit {us : Nat → Nat} (h : wordsOk us) (on : Bool) (c : Nat) (hc : c < 145) : ∀ (ch : List Nat), (∀ b ∈ ch, b < 145) → usedW (markL us ch on) c = if c ∈ ch then on else usedW us c := by
  intro ch
  induction ch generalizing us with
  | nil => intro _; simp [markL]
  | cons a r ih =>
    intro hb
    have := ih (markW_ok h a (hb a (by simp)) on) (fun b hb' => hb b (by simp [hb']))
    have e : markL us (a :: r) on = markL (markW us a on) r on := rfl
    rw [e, this, markW_bit h a c (hb a (by simp)) hc]
    by_cases h1 : c ∈ r
    · simp [h1]
    · by_cases h2 : c = a
      · simp [h2]
      · simp [h1, h2]

theorem SAt.putEnt {w : World} {s d : Nat} {tab : Nat → Ent} {hd us : Nat → Nat} {nf rt : Nat} (h : SAt w s d tab hd us nf rt) (i : Nat) (hi : i < 49) (e : Ent) :
    SAt ((((((w.setCell ⟨s, 1 + i * 6, none⟩ (.int .i64 (e.state : Int))).setCell ⟨s, 1 + i * 6 + 1, none⟩ (.int .i64 (e.kind : Int))).setCell ⟨s, 1 + i * 6 + 2, none⟩ (.int .i64 (e.size : Int))).setCell ⟨s, 1 + i * 6 + 3, none⟩ (.int .i64 (e.first : Int))).setCell ⟨s, 1 + i * 6 + 4, none⟩ (.int .u32 (e.hash : Int))).setCell ⟨s, 1 + i * 6 + 5, none⟩ (.int .i64 (e.next : Int))) s d (updT tab i e) hd us nf rt := by
  have := (((((Has.setCell h (1 + i * 6) (.int .i64 (e.state : Int))).setCell (1 + i * 6 + 1) (.int .i64 (e.kind : Int))).setCell (1 + i * 6 + 2) (.int .i64 (e.size : Int))).setCell (1 + i * 6 + 3) (.int .i64 (e.first : Int))).setCell (1 + i * 6 + 4) (.int .u32 (e.hash : Int))).setCell (1 + i * 6 + 5) (.int .i64 (e.next : Int))
  simp only [tabV_set] at this
  unfold SAt
  rw [tabV_congr 308 (g := scell d (updT tab i e) hd us nf rt)] at this
  · exact this
  · intro j hj
    by_cases hj1 : 1 ≤ j ∧ j < 295
    · obtain ⟨a, b, hab, hb⟩ : ∃ a b, j = 1 + a * 6 + b ∧ b < 6 := ⟨(j - 1) / 6, (j - 1) % 6, by omega, by omega⟩
      subst hab
      rw [scell_ent a b (by omega) hb, scell_ent a b (by omega) hb]
      by_cases hai : a = i
      · subst hai
        rw [updT_same]
        match b, hb with
        | 0, _ => rw [if_neg (by omega), if_neg (by omega), if_neg (by omega), if_neg (by omega), if_neg (by omega), if_pos (by omega)]; rfl
        | 1, _ => rw [if_neg (by omega), if_neg (by omega), if_neg (by omega), if_neg (by omega), if_pos (by omega)]; rfl
        | 2, _ => rw [if_neg (by omega), if_neg (by omega), if_neg (by omega), if_pos (by omega)]; rfl
        | 3, _ => rw [if_neg (by omega), if_neg (by omega), if_pos (by omega)]; rfl
        | 4, _ => rw [if_neg (by omega), if_pos (by omega)]; rfl
        | 5, _ => rw [if_pos (by omega)]; rfl
      · rw [updT_other _ _ _ _ hai, if_neg (by omega), if_neg (by omega), if_neg (by omega), if_neg (by omega), if_neg (by omega), if_neg (by omega)]
    · rw [if_neg (by omega), if_neg (by omega), if_neg (by omega), if_neg (by omega), if_neg (by omega), if_neg (by omega)]
      unfold scell
      by_cases h0 : j = 0
      · rw [if_pos h0, if_pos h0]
      · have h5 : ¬ j < 295 := by omega
        rw [if_neg h0, if_neg h0, if_neg h5, if_neg h5]
theorem only6 {w : World} {S : Nat → Prop} {w0 : World} {s i : Nat} (h : Only S w0 w) (hS : s < w0.heap.size → S s) (a b c d e f : Value) : Only S w0 ((((((w.setCell ⟨s, 1 + i * 6, none⟩ a).setCell ⟨s, 1 + i * 6 + 1, none⟩ b).setCell ⟨s, 1 + i * 6 + 2, none⟩ c).setCell ⟨s, 1 + i * 6 + 3, none⟩ d).setCell ⟨s, 1 + i * 6 + 4, none⟩ e).setCell ⟨s, 1 + i * 6 + 5, none⟩ f) :=
  (((((h.setCell (p := ⟨s, 1 + i * 6, none⟩) hS a).setCell (p := ⟨s, 1 + i * 6 + 1, none⟩) hS b).setCell (p := ⟨s, 1 + i * 6 + 2, none⟩) hS c).setCell (p := ⟨s, 1 + i * 6 + 3, none⟩) hS d).setCell (p := ⟨s, 1 + i * 6 + 4, none⟩) hS e).setCell (p := ⟨s, 1 + i * 6 + 5, none⟩) hS f

section
variable {w : World} {s d : Nat} {tab : Nat → Ent} {hd us : Nat → Nat} {nf rt : Nat} {D B : Nat → Nat} {recs : List Rec} {F : Nat → Prop}
variable {k n : Nat} {x : Nat → Nat} {ch : List Nat}

theorem Lies.mem (h : Lies D k n x ch) : ∀ b ∈ ch, 1 ≤ b ∧ b < 145 := by
  intro b hb
  obtain ⟨i, hi, rfl⟩ := List.getElem_of_mem hb
  have := h.rng i hi
  simpa [List.getD_eq_getElem?_getD, List.getElem?_eq_getElem hi] using this
theorem Lies.memTake (h : Lies D k n x ch) (i : Nat) : ∀ b ∈ ch.take i, b < 145 := fun b hb => (h.mem b (List.mem_of_mem_take hb)).2

set_option maxRecDepth 100000 in
set_option maxHeartbeats 2000000 in
theorem claim_any (h : SAt w s d tab hd us nf rt) (hv : DevAt w d D B recs F) (hsF : ¬ F s) (hl : Lies D k n x ch) (hu : wordsOk us) (fb : Nat) (hfb : ch.getD 0 0 = fb) :
    Calls Tryz.prog 64 #[.pointer (some ⟨s, 0, none⟩), .int .i64 fb] w fun e w' => e = .returned (.tuple #[]) ∧ SAt w' s d tab hd (markL us ch true) nf rt ∧ Only (fun k => k = s) w w' := by
  have hsl := Has.lt h
  have hlen := hl.len
  have h3 := hl.le3
  rw [hlen] at h3
  have Hl := hide hl
  have Hfb := hide hfb
  clear hl hfb
  go_enter Tryz.func64, Tryz.ntmps64
  go_wp2_with fail
  go_loopw [4, 5] (fun bv iv wr => ∃ i : Nat, i ≤ nB n ∧ bv = .int .i64 (ch.getD i 0 : Nat) ∧ iv = .int .i64 i ∧ SAt wr s d tab hd (markL us (ch.take i) true) nf rt ∧ Only (fun k => k = s) w wr) (fun _ iv _ => (3 - intOf iv).toNat)
  case atStart => exact ⟨0, by omega, by rw [unhide Hfb], rfl, by simpa [markL] using h, Only.refl _ _⟩
  case round =>
    obtain ⟨i, hi, rfl, rfl, hs, ho⟩ := hrel
    by_cases hib : i < nB n
    · have hil : i < ch.length := by omega
      obtain ⟨r1, r2⟩ := (unhide Hl).rng i hil
      have q1 := (unhide Hl).b1 i hil
      have q3 := (unhide Hl).nxt (i + 1)
      have hT := markL_take us ch true i hil
      have HT := hide hT
      clear hT
      have C1 := hide (mark_any hs (ch.getD i 0) r2 (markL_ok hu true _ ((unhide Hl).memTake i)) true)
      have hv1 := hv.keep ho (fun y hy e => hsF (e ▸ hy))
      generalize ch.getD i 0 = b at *
      generalize hb' : ch.getD (i + 1) 0 = b' at *
      have Hb' := hide hb'
      have hb0 : ((b : Int) != 0) = true := by simp; omega
      have hi3 : decide ((i : Int) < 3) = true := by simp; omega
      clear hb' hs
      go_wp2_with fail
      refine (unhide C1).mono ?_
      rintro e w1 ⟨rfl, hs1, ho1⟩
      have C2 := hide (oblock_any hs1 (hv1.keep ho1 (fun y hy e => hsF (e ▸ hy))) b r2)
      have ho1' := ho.trans ho1 (fun _ _ h => h)
      clear C1
      go_wp2_with fail
      refine (unhide C2).mono ?_
      rintro e w2 ⟨rfl, hb2, ho2⟩
      have C3 := onext_any w1.heap.size (blkF D b) (by rw [q1]; exact q3) hb2
      rw [q1] at C3
      have C3 := hide C3
      have hs2 := hs1.keep ho2 (fun h => h)
      have ho2' := ho1'.trans ho2 (fun _ _ h => h.elim)
      clear C2
      go_wp2_with fail
      refine (unhide C3).mono ?_
      rintro e w3 ⟨rfl, rfl⟩
      go_wp2_with fail
      go_roundw
      case rel => exact ⟨i + 1, by omega, by rw [unhide Hb'], by go_num, by rw [unhide HT]; exact hs2, ho2'⟩
      case measure => simp [intOf]; omega
    · obtain rfl : i = nB n := by omega
      have hz := (unhide Hl).zero (nB n) (by omega)
      have et : ch.take (nB n) = ch := List.take_of_length_le (by omega)
      rw [et] at hs
      rw [hz]
      clear hz et
      generalize nB n = bb at *
      by_cases hb3 : bb < 3
      · have a1 : decide ((bb : Int) < 3) = true := by simp; omega
        go_wp2_with fail
        go_end0
        exact ⟨rfl, hs, ho⟩
      · have a1 : decide ((bb : Int) < 3) = false := by simp; omega
        go_wp2_with fail
        go_end0
        exact ⟨rfl, hs, ho⟩
set_option maxRecDepth 100000 in
set_option maxHeartbeats 2000000 in
theorem release_any (h : SAt w s d tab hd us nf rt) (hv : DevAt w d D B recs F) (hsF : ¬ F s) (hl : Lies D k n x ch) (hu : wordsOk us) (id : Nat) (hid : id < 49) (hfb : (tab id).first = ch.getD 0 0) (hnf : nf < 1000) :
    Calls Tryz.prog 179 #[.pointer (some ⟨s, 0, none⟩), .int .i64 id] w fun e w' => e = .returned (.tuple #[]) ∧ SAt w' s d (updT tab id Ent.zero) hd (markL us ch false) (nf + 1) rt ∧ Only (fun k => k = s) w w' := by
  have hsl := Has.lt h
  have hlen := hl.len
  have h3 := hl.le3
  have c3 := (h.ent id 3 hid (by omega)).1
  simp only [entCell] at c3
  rw [hfb] at c3
  rw [hlen] at h3
  have hid' : (id : Int) < 49 := by omega
  have Hl := hide hl
  clear hl hfb
  go_enter Tryz.func179, Tryz.ntmps179
  go_wp2_with fail
  go_loopw [4, 5] (fun bv iv wr => ∃ i : Nat, i ≤ nB n ∧ bv = .int .i64 (ch.getD i 0 : Nat) ∧ iv = .int .i64 i ∧ SAt wr s d tab hd (markL us (ch.take i) false) nf rt ∧ Only (fun k => k = s) w wr) (fun _ iv _ => (3 - intOf iv).toNat)
  case atStart => exact ⟨0, by omega, rfl, rfl, by simpa [markL] using h, Only.refl _ _⟩
  case round =>
    clear c3
    obtain ⟨i, hi, rfl, rfl, hs, ho⟩ := hrel
    by_cases hib : i < nB n
    · have hil : i < ch.length := by omega
      obtain ⟨r1, r2⟩ := (unhide Hl).rng i hil
      have q1 := (unhide Hl).b1 i hil
      have q3 := (unhide Hl).nxt (i + 1)
      have hT := markL_take us ch false i hil
      have HT := hide hT
      clear hT
      have C1 := hide (mark_any hs (ch.getD i 0) r2 (markL_ok hu false _ ((unhide Hl).memTake i)) false)
      have hv1 := hv.keep ho (fun y hy e => hsF (e ▸ hy))
      generalize ch.getD i 0 = b at *
      generalize hb' : ch.getD (i + 1) 0 = b' at *
      have Hb' := hide hb'
      have hb0 : ((b : Int) != 0) = true := by simp; omega
      have hi3 : decide ((i : Int) < 3) = true := by simp; omega
      clear hb' hs
      go_wp2_with fail
      refine (unhide C1).mono ?_
      rintro e w1 ⟨rfl, hs1, ho1⟩
      have C2 := hide (oblock_any hs1 (hv1.keep ho1 (fun y hy e => hsF (e ▸ hy))) b r2)
      have ho1' := ho.trans ho1 (fun _ _ h => h)
      clear C1
      go_wp2_with fail
      refine (unhide C2).mono ?_
      rintro e w2 ⟨rfl, hb2, ho2⟩
      have C3 := onext_any w1.heap.size (blkF D b) (by rw [q1]; exact q3) hb2
      rw [q1] at C3
      have C3 := hide C3
      have hs2 := hs1.keep ho2 (fun h => h)
      have ho2' := ho1'.trans ho2 (fun _ _ h => h.elim)
      clear C2
      go_wp2_with fail
      refine (unhide C3).mono ?_
      rintro e w3 ⟨rfl, rfl⟩
      go_wp2_with fail
      go_roundw
      case rel => exact ⟨i + 1, by omega, by rw [unhide Hb'], by go_num, by rw [unhide HT]; exact hs2, ho2'⟩
      case measure => simp [intOf]; omega
    · obtain rfl : i = nB n := by omega
      have hz := (unhide Hl).zero (nB n) (by omega)
      have et : ch.take (nB n) = ch := List.take_of_length_le (by omega)
      rw [et] at hs
      rw [hz]
      clear hz et
      have z0 := hs.state id hid
      have z1 := hs.ent id 1 hid (by omega)
      have z2 := hs.ent id 2 hid (by omega)
      have z3 := hs.ent id 3 hid (by omega)
      have z4 := hs.ent id 4 hid (by omega)
      have z5 := hs.ent id 5 hid (by omega)
      have z6 := hs.nfree
      simp only [entCell] at z0 z1 z2 z3 z4 z5
      have Hp := hide ((hs.putEnt id hid Ent.zero).setNfree (nf + 1))
      generalize nB n = bb at *
      generalize tab id = te at *
      by_cases hb3 : bb < 3
      · have a1 : decide ((bb : Int) < 3) = true := by simp; omega
        go_wp2_with fail
        go_end0
        exact ⟨rfl, unhide Hp, (only6 ho (fun _ => rfl) _ _ _ _ _ _).setCell (p := ⟨s, 306, none⟩) (fun _ => rfl) _⟩
      · have a1 : decide ((bb : Int) < 3) = false := by simp; omega
        go_wp2_with fail
        go_end0
        exact ⟨rfl, unhide Hp, (only6 ho (fun _ => rfl) _ _ _ _ _ _).setCell (p := ⟨s, 306, none⟩) (fun _ => rfl) _⟩
end
end Go.Proofs.Qxb6500417aGreat
