/-
  OWN WORK. THE ENGINE: Diff.
-/
import Derived.Test.Qxb6500416aDHunk
namespace Go.Proofs.Qxb6500416a
open Go.RowKit Go.PlainAid
set_option linter.unusedSimpArgs false
set_option linter.unusedVariables false

def linesOf (s : ByteArray) : List Str := splitS (ls s)
theorem linesOf_len (s : ByteArray) : (linesOf s).length ≤ s.size := by have := splitS_len (ls s); rw [ls_len] at this; exact this
theorem mem_flat_len {l : List Str} {x : Str} (h : x ∈ l) : x.length ≤ l.flatten.length := by
  induction l with
  | nil => simp at h
  | cons a r ih =>
    rcases List.mem_cons.1 h with h | h
    · subst h; simp
    · have := ih h
      rw [List.flatten_cons, List.length_append]
      omega
theorem linesOf_size (s : ByteArray) : ∀ x ∈ linesOf s, x.length ≤ s.size := by
  intro x hx
  have := mem_flat_len hx
  unfold linesOf at this
  rw [splitS_flat, ls_len] at this
  exact this
theorem linesOf_flat (s : ByteArray) : (linesOf s).flatten.length = s.size := by unfold linesOf; rw [splitS_flat, ls_len]
theorem splitL_any (s : ByteArray) (hs : s.size ≤ 1000000) (w : World) :
    Calls Try.prog 37 #[.string s] w fun e w' => ∃ v', e = .returned v' ∧ OwnL w' v' (linesOf s) ∧ (∀ y, v'.ownBlock = some y → w.heap.size ≤ y) ∧ Only (fun _ => False) w w' := splitLines_any s hs w
def diffP (a b : ByteArray) : List Hk := hkF (linesOf a) (linesOf b) (mtc (linesOf a) (linesOf b) 0) 0 0 0
section
variable {w : World} {e : Nat} {L : List Str} {F : Nat → Prop}
theorem ddiff_big (a b : ByteArray) (h : 1024 < a.size ∨ 1024 < b.size) (w : World) :
    Calls Try.prog 19 #[.pointer (some ⟨e, 0, none⟩), .string a, .string b] w fun x w' => x = .returned (.tuple #[.slice none 0 0, .int .i64 4]) ∧ w = w' := by
  by_cases h1 : 1024 < a.size
  · have a1 : decide ((1024 : Int) < (a.size : Int)) = true := by simp; omega
    go_enter Try.func19, Try.ntmps19
    go_wp2_with fail
    go_ret2
    exact ⟨rfl, rfl⟩
  · have a1 : decide ((1024 : Int) < (a.size : Int)) = false := by simp; omega
    have a2 : decide ((1024 : Int) < (b.size : Int)) = true := by simp; omega
    go_enter Try.func19, Try.ntmps19
    go_wp2_with fail
    go_ret2
    exact ⟨rfl, rfl⟩
set_option maxRecDepth 100000 in
set_option maxHeartbeats 4000000 in
theorem ddiff_any (h : EP w e L F) (a b : ByteArray) (ha : a.size ≤ 1024) (hb : b.size ≤ 1024) :
    Calls Try.prog 19 #[.pointer (some ⟨e, 0, none⟩), .string a, .string b] w fun x w' => ∃ v' hs F' L', x = .returned (.tuple #[v', .int .i64 0]) ∧ PatO w' v' hs (diffP a b) (fun y => w.heap.size ≤ y ∧ ¬ F' y) ∧ Dst hs ∧ EP w' e L' F' ∧ (∀ k, F' k → F k ∨ w.heap.size ≤ k) ∧ Only F w w' := by
  have a1 : decide ((1024 : Int) < (a.size : Int)) = false := by simp; omega
  have a2 : decide ((1024 : Int) < (b.size : Int)) = false := by simp; omega
  have la := linesOf_len a
  have lb := linesOf_len b
  have sa := linesOf_size a
  have sb_ := linesOf_size b
  have HE := hide h
  have hin := h.inn
  have Hin := hide hin
  have C1 := hide (splitL_any a (by omega))
  have C2 := hide (splitL_any b (by omega))
  have HF : Hid (diffP a b = hkF (linesOf a) (linesOf b) (mtc (linesOf a) (linesOf b) 0) 0 0 0) := hide rfl
  generalize linesOf a = A at *
  generalize linesOf b = B at *
  generalize diffP a b = R at *
  have Hsa := hide sa
  have Hsb := hide sb_
  clear h hin sa sb_
  go_enter Try.func19, Try.ntmps19
  go_wp2_with fail
  refine (unhide C1 w).mono ?_
  rintro x w1 ⟨va, rfl, oA1, fA, o1⟩
  go_wp2_with fail
  refine (unhide C2 w1).mono ?_
  rintro x w2 ⟨vb, rfl, oB2, fB, o2⟩
  have ltA := ownsRow_lt oA1
  have oA2 := oA1.keep o2 (fun _ _ h => h)
  have ltB := ownsRow_lt oB2
  have o12 := o1.trans o2 (fun _ _ h => h)
  have E2 := (unhide HE).keep o12 (fun _ _ h => h)
  have s1 := o1.size
  have s2 := o2.size
  have C3 := hide (dreset_any E2)
  have el := (unhide Hin) e (unhide HE).own
  have neA : ∀ y, va.ownBlock = some y → ¬ F y := fun y hy hf => by have := fA y hy; have := (unhide Hin) y hf; omega
  have neB : ∀ y, vb.ownBlock = some y → ¬ F y := fun y hy hf => by have := fB y hy; have := (unhide Hin) y hf; omega
  have own_e := (unhide HE).own
  have HA2 := hide oA2
  have HB2 := hide oB2
  have H12 := hide o12
  clear oA1 oB2 oA2 o1 o2 o12 E2 HE
  go_wp2_with fail
  refine (unhide C3).mono ?_
  rintro x w3 ⟨rfl, E3, o3⟩
  have oA3 := (unhide HA2).keep o3 (fun y hy e1 => neA y hy (e1 ▸ own_e))
  have oB3 := (unhide HB2).keep o3 (fun y hy e1 => neB y hy (e1 ▸ own_e))
  have o13 : Only F w w3 := ((unhide H12).mono (fun _ _ h => h.elim)).trans o3 (fun y hy e1 => e1 ▸ own_e)
  have s3 := o3.size
  have C4 := hide (dnumbers_any E3 va A oA3.in_ neA (by omega) (fun s hs => by have := unhide Hsa s hs; omega) (by simp))
  have HA3 := hide oA3
  have HB3 := hide oB3
  have H13 := hide o13
  clear oA3 oB3 o13 o3 E3 C1 C2 C3 HA2 HB2 H12
  go_wp2_with fail
  refine (unhide C4).mono ?_
  rintro x w4 ⟨gx, rfl, X4, ⟨F4, E4, f4⟩, o4, lgx⟩
  have oA4 := (unhide HA3).keep o4 neA
  have oB4 := (unhide HB3).keep o4 neB
  have o14 := (unhide H13).trans o4 (fun _ _ h => h)
  have s4 := o4.size
  have hLl := addsL_len A []
  have ngx : ¬ F4 gx := fun hf => by
    rcases f4 gx hf with h | h
    · have := (unhide Hin) gx h; omega
    · exact h.2 rfl
  have neA4 : ∀ y, va.ownBlock = some y → ¬ F4 y := fun y hy hf => by
    have := ltA y hy
    rcases f4 y hf with h | h
    · exact neA y hy h
    · omega
  have neB4 : ∀ y, vb.ownBlock = some y → ¬ F4 y := fun y hy hf => by
    have := ltB y hy
    rcases f4 y hf with h | h
    · exact neB y hy h
    · omega
  have C5 := hide (dnumbers_any E4 vb B oB4.in_ neB4 (by omega) (fun s hs => by have := unhide Hsb s hs; omega) (by simp at hLl; omega))
  have HX4 := hide X4
  have HA4 := hide oA4
  have HB4 := hide oB4
  have H14 := hide o14
  have Hf4 := hide f4
  have Hn1 := hide ngx
  have Hn2 := hide neA4
  have Hn3 := hide neB4
  clear X4 oA4 oB4 o14 o4 E4 f4 C4 HA3 HB3 H13 ngx neA4 neB4
  go_wp2_with fail
  refine (unhide C5).mono ?_
  rintro x w5 ⟨gy, rfl, Y5, ⟨F5, E5, f5⟩, o5, lgy⟩
  have X5 : IntsR w5 gx _ := Has.keep (unhide HX4) o5 (unhide Hn1)
  have oA5 := (unhide HA4).keep o5 (unhide Hn2)
  have oB5 := (unhide HB4).keep o5 (unhide Hn3)
  have o15 : Only F w w5 := (unhide H14).trans o5 (fun y hy hf => by
    rcases unhide Hf4 y hf with h | h
    · exact h
    · omega)
  have s5 := o5.size
  have e1 : numsL (addsL [] A) A = numsL (addsL (addsL [] A) B) A := (numsL_more _ A B (addsL_mem A [])).symm
  rw [e1] at X5
  have f15 : ∀ k, F5 k → F k ∨ w.heap.size ≤ k := fun k hk => by
    rcases f5 k hk with h | h
    · rcases unhide Hf4 k h with h | h
      · exact .inl h
      · exact .inr (by omega)
    · exact .inr (by omega)
  have in5 := E5.inn
  have hmt := numsL_mtc (addsL (addsL [] A) B) A B 0 (fun t ht => addsL_sub _ _ _ (addsL_mem A [] t ht)) (addsL_mem B _)
  have C6 := hide (dmatch_any X5 Y5 (by rw [numsL_len]; omega) (by rw [numsL_len]; omega))
  rw [hmt, numsL_len, numsL_len] at C6
  have hrise := mtc_rise _ A B 0 (Nat.le_refl _)
  rw [Nat.zero_add] at hrise
  have hmlen := mtc_len _ A B 0 (Nat.le_refl _)
  have HA5 := hide oA5
  have HB5 := hide oB5
  have H15 := hide o15
  have HE5 := hide E5
  have Hf15 := hide f15
  have Hin5 := hide in5
  have Hri := hide hrise
  have Hml := hide hmlen
  clear X5 Y5 oA5 oB5 o15 o5 E5 f5 f15 e1 hmt C5 HX4 HA4 HB4 H14 Hf4 Hn1 Hn2 Hn3 in5 hrise hmlen
  go_wp2_with fail
  refine (unhide C6).mono ?_
  rintro x w6 ⟨gm, rfl, M6, lgm, o6⟩
  have C7 := hide (dhunks_any ((unhide HA5).keep o6 (fun _ _ h => h)) ((unhide HB5).keep o6 (fun _ _ h => h)) M6 (unhide Hml) rfl (unhide Hri) (by omega) (by omega))
  rw [← unhide HF] at C7
  have s6 := o6.size
  have E6 := hide ((unhide HE5).keep o6 (fun _ _ h => h))
  have O6 := hide ((unhide H15).trans o6 (fun _ _ h => h.elim))
  clear M6 o6 C6 HA5 HB5
  go_wp2_with fail
  refine (unhide C7).mono ?_
  rintro x w7 ⟨v', rfl, ⟨⟨hs, hp, hdst⟩, o7⟩⟩
  have E7 := hide ((unhide E6).keep o7 (fun _ _ h => h))
  have O7 := hide ((unhide O6).trans o7 (fun _ _ h => h.elim))
  have hp7 := hide (hp.mono (G' := fun y => w.heap.size ≤ y ∧ ¬ F5 y) (fun y hy hg => ⟨by omega, fun hf => by have := unhide Hin5 y hf; omega⟩))
  clear hp o7 C7
  go_wp2_with fail
  go_ret2
  exact ⟨v', hs, F5, _, rfl, unhide hp7, hdst, unhide E7, unhide Hf15, unhide O7⟩
end
end Go.Proofs.Qxb6500416a
