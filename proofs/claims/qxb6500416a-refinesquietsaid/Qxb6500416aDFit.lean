/-
  OWN WORK. PATCHES: PatchFits.
-/
import Derived.Test.Qxb6500416aDByt
namespace Go.Proofs.Qxb6500416a
open Go.RowKit Go.PlainAid
set_option linter.unusedSimpArgs false
set_option linter.unusedVariables false

def okL (l : List Str) : Bool := l.all (fun x => decide (x.length ≤ 1024))
def fitsF : List Hk → Nat → Nat → Bool
  | [], _, _ => true
  | h :: r, ln, bt => (decide (h.del.length ≤ 2048) && decide (h.ins.length ≤ 2048)) && (decide (ln + h.del.length + h.ins.length ≤ 2048) && ((okL h.del && okL h.ins) && (decide (bt + h.del.flatten.length + h.ins.flatten.length ≤ 2048) && fitsF r (ln + h.del.length + h.ins.length) (bt + h.del.flatten.length + h.ins.flatten.length))))
def fitsP (p : List Hk) : Bool := decide (p.length ≤ 2048) && fitsF p 0 0
theorem fitsF_bound : ∀ (p : List Hk) (ln bt : Nat), fitsF p ln bt = true → (ln ≤ 2048 → ln + patL p ≤ 2048) ∧ (bt ≤ 2048 → bt + patB p ≤ 2048)
  | [], ln, bt, _ => ⟨fun h => h, fun h => h⟩
  | h :: r, ln, bt, hf => by
    simp only [fitsF, Bool.and_eq_true, decide_eq_true_eq] at hf
    obtain ⟨_, h1, _, h2, h3⟩ := hf
    have := fitsF_bound r _ _ h3
    simp only [patL, patB]
    exact ⟨fun _ => by have := this.1 h1; omega, fun _ => by have := this.2 h2; omega⟩
theorem fitsP_bound {p : List Hk} (h : fitsP p = true) : p.length ≤ 2048 ∧ patL p ≤ 2048 ∧ patB p ≤ 2048 := by
  simp only [fitsP, Bool.and_eq_true, decide_eq_true_eq] at h
  have := fitsF_bound p 0 0 h.2
  have h1 := this.1 (by omega)
  have h2 := this.2 (by omega)
  exact ⟨h.1, by omega, by omega⟩
theorem okL_snoc (l : List Str) (i : Nat) (h : i < l.length) (h1 : okL (l.take i) = true) (h2 : l[i].length ≤ 1024) : okL (l.take (i + 1)) = true := by
  rw [List.take_succ_eq_append_getElem h]
  unfold okL at h1 ⊢
  rw [List.all_append, h1]
  simp [h2]
theorem okL_no (l : List Str) (i : Nat) (h : i < l.length) (h2 : ¬ l[i].length ≤ 1024) : okL l = false := by
  cases hc : okL l with
  | false => rfl
  | true =>
    unfold okL at hc
    rw [List.all_eq_true] at hc
    have := hc l[i] (List.getElem_mem h)
    simp at this
    omega
theorem LnIn.get {w W : World} {a : Option Addr} {l : List Str} (hc : 0 < l.length → ∃ g, a = some ⟨g, 0, none⟩ ∧ ∀ i (h : i < l.length), w.cell? ⟨g, i, none⟩ = some (.string (sb l[i]))) (ho : Only (fun _ => False) w W) (j : Nat) (hj : j < l.length) :
    ∃ g, a = some ⟨g, 0, none⟩ ∧ g < W.heap.size ∧ W.cell? ⟨g, j, none⟩ = some (.string (sb l[j])) := by
  obtain ⟨g, rfl, h⟩ := hc (by omega)
  have c0 := h j hj
  have hgl : g < w.heap.size := World.block_lt_of_cell? w _ c0
  have hbk := ho.block g hgl (fun h => h)
  rw [← World.cell?_of_block hbk] at c0
  exact ⟨g, rfl, Nat.lt_of_lt_of_le hgl ho.size, c0⟩
def fln (l : List Str) : Nat := l.flatten.length
theorem fln_snoc (l : List Str) (i : Nat) (h : i < l.length) : fln (l.take (i + 1)) = fln (l.take i) + l[i].length := flat_snoc l i h
/-- How far the patch has been measured. -/
structure FtAt (p : List Hk) (R : Bool) (k ln bt : Nat) : Prop where
  kl : k ≤ p.length
  eq : R = fitsF (p.drop k) ln bt
  ll : ln ≤ 2048
  bl : bt ≤ 2048
set_option maxRecDepth 100000 in
set_option maxHeartbeats 8000000 in
theorem patchFits_any {w : World} {v : Value} {hs : List HV} {p : List Hk} {G : Nat → Prop} (h : PatO w v hs p G) (hpl : p.length ≤ 100000) (hdl : ∀ k ∈ p, k.del.length ≤ 100000 ∧ k.ins.length ≤ 100000) (hst : ∀ k ∈ p, (∀ x ∈ k.del, x.length ≤ 9223372036854775807) ∧ (∀ x ∈ k.ins, x.length ≤ 9223372036854775807)) :
    Calls Try.prog 45 #[v] w fun e w' => e = .returned (.bool (fitsP p)) ∧ Only (fun _ => False) w w' := by
  obtain ⟨va, vc, rfl⟩ := h.shape
  have HP := hide h
  clear h
  unfold fitsP
  by_cases h0 : p.length ≤ 2048
  · have a0 : decide ((2048 : Int) < (p.length : Int)) = false := decide_eq_false (by omega)
    have F0 : FtAt p (fitsF p 0 0) 0 0 0 := ⟨by omega, rfl, by omega, by omega⟩
    rw [decide_eq_true h0]
    generalize fitsF p 0 0 = R at *
    have HF0 := hide F0
    have Hdl := hide hdl
    have Hst := hide hst
    clear F0 hdl hst
    simp only [Bool.true_and]
    go_enter Try.func45, Try.ntmps45
    go_wp2_with fail
    go_loopw [3, 4, 5] (fun lv bv kv wr => ∃ k ln bt : Nat, lv = .int .i64 ln ∧ bv = .int .i64 bt ∧ kv = .int .i64 k ∧ FtAt p R k ln bt ∧ Only (fun _ => False) w wr) (fun _ _ kv _ => p.length - (intOf kv).toNat)
    case atStart => exact ⟨0, 0, 0, rfl, rfl, rfl, unhide HF0, Only.refl _ _⟩
    case round =>
      clear HF0
      obtain ⟨k, ln, bt, rfl, rfl, rfl, hF, ho⟩ := hrel
      by_cases hk : k < p.length
      · have a1 : decide ((k : Int) < (p.length : Int)) = true := decide_eq_true (by omega)
        have a2 : (k : Int) < (p.length : Int) := by omega
        obtain ⟨g, cap, hi', e, hgl, c0, c1, c2, hok⟩ := ((unhide HP).keep ho (fun _ _ h => h)).at k hk
        obtain ⟨rfl, rfl⟩ : va = some ⟨g, 0, none⟩ ∧ vc = cap := by simpa using e
        obtain ⟨da, dc, ed, hcd⟩ := hok.del.in_.parts
        obtain ⟨ia, ic, ei, hci⟩ := hok.ins.in_.parts
        rw [ed] at c1
        rw [ei] at c2
        obtain ⟨kl, heq, hll, hbl⟩ := hF
        rw [List.drop_eq_getElem_cons hk] at heq
        simp only [fitsF] at heq
        have hd1 := (unhide Hdl p[k] (List.getElem_mem hk)).1
        have hd2 := (unhide Hdl p[k] (List.getElem_mem hk)).2
        have hs1 := (unhide Hst p[k] (List.getElem_mem hk)).1
        have hs2 := (unhide Hst p[k] (List.getElem_mem hk)).2
        have Hs1 := hide hs1
        have Hs2 := hide hs2
        have Hcd := hide hcd
        have Hci := hide hci
        clear hok e ed ei hcd hci c0 hs1 hs2
        generalize hD : p[k].del = D at *
        generalize hN : p[k].ins = N at *
        clear hD hN
        generalize hfr : fitsF (p.drop (k + 1)) = fr at *
        have Hfr := hide hfr
        clear hfr
        have lD := sb_size
        clear lD
        by_cases h1 : D.length ≤ 2048
        · have b1 : decide ((2048 : Int) < (D.length : Int)) = false := decide_eq_false (by omega)
          by_cases h2 : N.length ≤ 2048
          · have b2 : decide ((2048 : Int) < (N.length : Int)) = false := decide_eq_false (by omega)
            rw [decide_eq_true h1, decide_eq_true h2] at heq
            simp only [Bool.true_and] at heq
            by_cases h3 : ln + D.length + N.length ≤ 2048
            · have b3 : decide ((2048 : Int) < (ln : Int) + (D.length : Int) + (N.length : Int)) = false := decide_eq_false (by omega)
              rw [decide_eq_true h3] at heq
              simp only [Bool.true_and] at heq
              have Heq := hide heq
              clear heq
              go_wp2_with fail
              go_quiet (fail)
              have hoq := ho.drewO nq
              have oq := (Only.refl (fun _ => False) wr).drewO nq
              generalize wr.drewN nq = W1 at *
              have c1q := (World.cell?_of_block (a := ⟨g, k * 3 + 1, none⟩) (oq.block g hgl (fun h => h))).trans c1
              have c2q := (World.cell?_of_block (a := ⟨g, k * 3 + 2, none⟩) (oq.block g hgl (fun h => h))).trans c2
              have hgl1 : g < W1.heap.size := Nat.lt_of_lt_of_le hgl oq.size
              have Hoq := hide hoq
              have Oq := hide oq
              clear c1 c2 hoq oq ho
              go_wp2_with fail
              go_loop [4, 6] (fun bv iv => ∃ i : Nat, i ≤ D.length ∧ iv = .int .i64 i ∧ bv = .int .i64 ((bt + fln (D.take i) : Nat) : Int) ∧ okL (D.take i) = true ∧ fln (D.take i) ≤ i * 1024) (fun _ iv => D.length - (intOf iv).toNat)
              case atStart => exact ⟨0, by omega, rfl, rfl, rfl, by simp [fln]⟩
              case round =>
                obtain ⟨i, hi, rfl, rfl, hok, hsz⟩ := hrel
                by_cases hil : i < D.length
                · have d1 : decide ((i : Int) < (D.length : Int)) = true := decide_eq_true (by omega)
                  have d2 : (i : Int) < (D.length : Int) := by omega
                  obtain ⟨gd, rfl, hgd, x0⟩ := LnIn.get (unhide Hcd) (unhide Oq) i hil
                  have xs := sb_size D[i]
                  have xb := unhide Hs1 D[i] (List.getElem_mem hil)
                  have hsn := fln_snoc D i hil
                  by_cases hx : D[i].length ≤ 1024
                  · have Hok := hide (okL_snoc D i hil hok hx)
                    have t1 : decide ((1024 : Int) < (D[i].length : Int)) = false := decide_eq_false (by omega)
                    have Hsn := hide hsn
                    generalize D[i].length = n at *
                    generalize sb D[i] = s at *
                    generalize fln (D.take i) = fi at *
                    clear hok hsn
                    go_wp2_with fail
                    go_round
                    case rel => exact ⟨i + 1, by omega, by go_num, by rw [unhide Hsn]; congr 1; push_cast; omega, unhide Hok, by rw [unhide Hsn]; omega⟩
                    case measure => simp [intOf]; omega
                  · have hR : R = false := by rw [unhide Heq, okL_no D i hil hx]; simp
                    have t1 : decide ((1024 : Int) < (D[i].length : Int)) = true := decide_eq_true (by omega)
                    have HR := hide hR
                    generalize D[i].length = n at *
                    generalize sb D[i] = s at *
                    clear hok hsn hR
                    go_wp2_with fail
                    go_ret
                    rw [unhide HR]
                    exact ⟨rfl, unhide Hoq⟩
                · have d1 : decide ((i : Int) < (D.length : Int)) = false := decide_eq_false (by omega)
                  have ei : i = D.length := by omega
                  subst ei
                  rw [List.take_length] at hok hsz ⊢
                  have heq := unhide Heq
                  rw [hok] at heq
                  simp only [Bool.true_and] at heq
                  have e1 : D.flatten.length = fln D := rfl
                  rw [e1] at heq
                  have Heq2 := hide heq
                  generalize fln D = fd at *
                  clear hok heq e1 Heq
                  go_wp2_with fail
                  go_loop [4, 7] (fun bv iv => ∃ i : Nat, i ≤ N.length ∧ iv = .int .i64 i ∧ bv = .int .i64 ((bt + fd + fln (N.take i) : Nat) : Int) ∧ okL (N.take i) = true ∧ fln (N.take i) ≤ i * 1024) (fun _ iv => N.length - (intOf iv).toNat)
                  case atStart => exact ⟨0, by omega, rfl, rfl, rfl, by simp [fln]⟩
                  case round =>
                    obtain ⟨i, hi, rfl, rfl, hok, hsz2⟩ := hrel
                    by_cases hil : i < N.length
                    · have d1 : decide ((i : Int) < (N.length : Int)) = true := decide_eq_true (by omega)
                      have d2 : (i : Int) < (N.length : Int) := by omega
                      obtain ⟨gd, rfl, hgd, x0⟩ := LnIn.get (unhide Hci) (unhide Oq) i hil
                      have xs := sb_size N[i]
                      have xb := unhide Hs2 N[i] (List.getElem_mem hil)
                      have hsn := fln_snoc N i hil
                      by_cases hx : N[i].length ≤ 1024
                      · have Hok := hide (okL_snoc N i hil hok hx)
                        have t1 : decide ((1024 : Int) < (N[i].length : Int)) = false := decide_eq_false (by omega)
                        have Hsn := hide hsn
                        generalize N[i].length = n at *
                        generalize sb N[i] = s at *
                        generalize fln (N.take i) = fi at *
                        clear hok hsn
                        go_wp2_with fail
                        go_round
                        case rel => exact ⟨i + 1, by omega, by go_num, by rw [unhide Hsn]; congr 1; push_cast; omega, unhide Hok, by rw [unhide Hsn]; omega⟩
                        case measure => simp [intOf]; omega
                      · have hR : R = false := by rw [unhide Heq2, okL_no N i hil hx]; simp
                        have t1 : decide ((1024 : Int) < (N[i].length : Int)) = true := decide_eq_true (by omega)
                        have HR := hide hR
                        generalize N[i].length = n at *
                        generalize sb N[i] = s at *
                        clear hok hsn hR
                        go_wp2_with fail
                        go_ret
                        rw [unhide HR]
                        exact ⟨rfl, unhide Hoq⟩
                    · have d1 : decide ((i : Int) < (N.length : Int)) = false := decide_eq_false (by omega)
                      have ei : i = N.length := by omega
                      subst ei
                      rw [List.take_length] at hok hsz2 ⊢
                      have heq := unhide Heq2
                      rw [hok] at heq
                      simp only [Bool.true_and] at heq
                      have e1 : N.flatten.length = fln N := rfl
                      rw [e1] at heq
                      generalize fln N = fn at *
                      by_cases h4 : bt + fd + fn ≤ 2048
                      · have t1 : decide ((2048 : Int) < ((bt + fd + fn : Nat) : Int)) = false := decide_eq_false (by omega)
                        have hN : FtAt p R (k + 1) (ln + D.length + N.length) (bt + fd + fn) := by
                          refine ⟨by omega, ?_, h3, h4⟩
                          rw [heq, decide_eq_true h4, unhide Hfr]
                          simp
                        have HN := hide hN
                        clear hok heq e1 Heq2 hN
                        generalize hbb : bt + fd + fn = bb at *
                        clear hbb
                        go_wp2_with fail
                        go_roundw
                        case rel => exact ⟨k + 1, _, bb, by first | rfl | (congr 1; push_cast; omega), rfl, by go_num, unhide HN, unhide Hoq⟩
                        case measure => simp [intOf]; omega
                      · have t1 : decide ((2048 : Int) < ((bt + fd + fn : Nat) : Int)) = true := decide_eq_true (by omega)
                        have hR : R = false := by
                          rw [heq, decide_eq_false h4]
                          rfl
                        have HR := hide hR
                        clear hok heq e1 Heq2 hR
                        generalize hbb : bt + fd + fn = bb at *
                        clear hbb
                        go_wp2_with fail
                        go_ret
                        rw [unhide HR]
                        exact ⟨rfl, unhide Hoq⟩
            · have b3 : decide ((2048 : Int) < (ln : Int) + (D.length : Int) + (N.length : Int)) = true := decide_eq_true (by omega)
              have hR : R = false := by
                rw [heq, decide_eq_false h3]
                rfl
              have HR := hide hR
              clear heq hR
              go_wp2_with fail
              go_quiet (fail)
              have hoq := ho.drewO nq
              go_wp2_with fail
              go_ret
              rw [unhide HR]
              exact ⟨rfl, hoq⟩
          · have b2 : decide ((2048 : Int) < (N.length : Int)) = true := decide_eq_true (by omega)
            have hR : R = false := by
              rw [heq, decide_eq_false h2]
              simp
            have HR := hide hR
            clear heq hR
            go_wp2_with fail
            go_ret
            rw [unhide HR]
            exact ⟨rfl, ho⟩
        · have b1 : decide ((2048 : Int) < (D.length : Int)) = true := decide_eq_true (by omega)
          have hR : R = false := by
            rw [heq, decide_eq_false h1]
            simp
          have HR := hide hR
          clear heq hR
          go_wp2_with fail
          go_ret
          rw [unhide HR]
          exact ⟨rfl, ho⟩
      · have a1 : decide ((k : Int) < (p.length : Int)) = false := decide_eq_false (by omega)
        have hR : R = true := by
          rw [hF.eq, List.drop_eq_nil_of_le (by omega)]
          rfl
        subst hR
        clear hF
        go_wp2_with fail
        go_ret
        exact ⟨rfl, ho⟩
  · have a0 : decide ((2048 : Int) < (p.length : Int)) = true := decide_eq_true (by omega)
    rw [decide_eq_false h0]
    clear hdl hst
    go_enter Try.func45, Try.ntmps45
    go_wp2_with fail
    go_ret
    exact ⟨rfl, Only.refl _ _⟩
end Go.Proofs.Qxb6500416a
