/-
  OWN WORK. THE INDEX: Check.
-/
import Derived.Test.Qxb6500418aISound
namespace Go.Proofs.Qxb6500418a
open Go.RowKit Go.PlainAid
set_option linter.unusedSimpArgs false
set_option linter.unusedVariables false

theorem zeroT : tabV 51 (tcell (fun _ => false) 0) = #[.bool false, .bool false, .bool false, .bool false, .bool false, .bool false, .bool false, .bool false, .bool false, .bool false, .bool false, .bool false, .bool false, .bool false, .bool false, .bool false, .bool false, .bool false, .bool false, .bool false, .bool false, .bool false, .bool false, .bool false, .bool false, .bool false, .bool false, .bool false, .bool false, .bool false, .bool false, .bool false, .bool false, .bool false, .bool false, .bool false, .bool false, .bool false, .bool false, .bool false, .bool false, .bool false, .bool false, .bool false, .bool false, .bool false, .bool false, .bool false, .bool false, .int .i64 0, .bool false] := by rfl
theorem FreeL.len {P : Nat → Nd} {l : List Nat} {p : Nat} (h : FreeL P l p) (hn : l.Nodup) : l.length ≤ 48 := ids48 hn (h.rng)
section
variable {w : World} {x : Nat} {L : List Fl}
set_option maxRecDepth 100000 in
set_option maxHeartbeats 4000000 in
theorem icheck_any (h : IX w x L) :
    Calls Try.prog 17 #[.pointer (some ⟨x, 0, none⟩)] w fun e w' => e = .returned (.bool true) ∧ Only (fun _ => False) w w' := by
  have hxl := h.lt
  have hcnt := h.cnt
  have hlaw := (checkF_law L).2 h.lawful
  have C3 := hide (fun W1 (hW : Only (fun _ => False) w W1) => ilist_any (h.keep hW (fun h => h)))
  have C4 := fun (W1 : World) (v : Value) (hv : OwnF W1 v L) => checkFiles_any v L hv.in_
  rw [hlaw] at C4
  have C4 := hide C4
  have hgood := h.good
  obtain ⟨⟨P, fr, F, fl, hA, hv, hw, hfu, hsh, hL⟩, _, _⟩ := h
  have hh := hgt6 hw hfu hL (fun f hf => (hgood f hf).1)
  have hnd := List.nodup_append.1 hv.nd
  have hSI : SnI P 6 [] F (P 0).child [] (fun _ => false) := by
    refine ⟨hv.tr.lay, hv.tr.len, hv.tr.nd, hh, hsh, hw, hfu, fun q hq => ?_, fun f hf => by rw [hL] at hf; exact hgood f hf, fun _ _ => rfl⟩
    obtain ⟨n', _, ok, e⟩ := key_name hw q hq
    have hne := ok.1
    cases q with
    | nil =>
      rcases e with e | e
      · exact absurd e.symm hne
      · have := congrArg List.length e
        simp at this
    | cons a r => rfl
  have SFf : ∀ c, 1 ≤ c → c < 49 → mrk (mrk (fun _ => false) F.ids) fl c = true := by
    intro c h1 h2
    have := hv.all c h1 h2
    simp only [List.mem_append] at this
    simp only [mrk]
    rcases this with e | e <;> simp [e]
  have hfre := hv.fre
  have hun : ∀ c ∈ fl, mrk (fun _ => false) F.ids c = false := fun c hc => mrk_other rfl (fun hF => hnd.2.2 c hF c hc rfl)
  have hroot := hv.tr.root
  have hfl := hfre.len hnd.2.1
  have hnF : (F.gather []).length = L.length := by rw [hL]
  have CS := fun (W : World) (t : Nat) (hI : IAt W x P fr L.length) (hT : TAt W t (fun _ => false) 0) (htx : t ≠ x) => sound_any 6 hI (by omega) 0 (by omega) F [] (fun _ => false) 0 hSI (by simp) hT htx (by rw [hnF]; omega)
  simp only [hnF, Nat.zero_add] at CS
  have CS := hide CS
  have HA := hide hA
  have HS := hide SFf
  have HF := hide (And.intro hfre (And.intro hnd.2.1 hun))
  obtain ⟨⟨z0, _⟩, ⟨z1, _⟩, ⟨z2, _⟩, ⟨z3, _⟩, ⟨z4, _⟩, ⟨z5, _⟩, ⟨z6, _⟩, ⟨z7, _⟩⟩ := hA.all 0 (by omega)
  rw [hroot] at z0 z2 z3 z4 z5 z6 z7
  generalize (P 0).child = ch at *
  have z0 : w.cell? ⟨x, 0, none⟩ = some (.string ⟨#[]⟩) := z0
  have z1 : w.cell? ⟨x, 1, none⟩ = some (.int .i64 (ch : Int)) := z1
  have z2 : w.cell? ⟨x, 2, none⟩ = some (.int .i64 0) := z2
  have z3 : w.cell? ⟨x, 3, none⟩ = some (.bool false) := z3
  have z4 : w.cell? ⟨x, 4, none⟩ = some (.string ⟨#[]⟩) := z4
  have z5 : w.cell? ⟨x, 5, none⟩ = some (.int .i64 0) := z5
  have z6 : w.cell? ⟨x, 6, none⟩ = some (.int .i64 0) := z6
  have z7 : w.cell? ⟨x, 7, none⟩ = some (.int .i64 0) := z7
  clear hv hw hfu hsh hL hh hnd hSI SFf hfre hun hroot hnF hgood hA hlaw
  go_enter Try.func17, Try.ntmps17
  have o1 : Only (fun _ => False) w (w.alloc (.cells #[.string (st []), .int .i64 (ch : Int), .int .i64 0, .bool false, .string (st []), .int .i64 0, .int .i64 0, .int .i64 0] 46)) := (Only.refl _ w).alloc _
  have HO1 := hide o1
  clear o1
  go_upto_region 4 with fail
  generalize w.alloc (.cells #[.string (st []), .int .i64 (ch : Int), .int .i64 0, .bool false, .string (st []), .int .i64 0, .int .i64 0, .int .i64 0] 46) = W1 at *
  have s1 := (unhide HO1).size
  obtain ⟨t, ht⟩ : ∃ t, t = W1.heap.size := ⟨_, rfl⟩
  have T0 : TAt (W1.alloc (.cells (tabV 51 (tcell (fun _ => false) 0)) 71)) t (fun _ => false) 0 := Has.new' W1 (tabV 51 (tcell (fun _ => false) 0)) 71 t ht
  have o2 : Only (fun _ => False) w (W1.alloc (.cells (tabV 51 (tcell (fun _ => false) 0)) 71)) := (unhide HO1).alloc _
  have htw : w.heap.size ≤ t := by omega
  have htx : t ≠ x := by omega
  have hxt : x ≠ t := by omega
  have HT0 := hide T0
  have HO2 := hide o2
  have Ht := hide ht
  clear T0 o2 HO1 ht z0 z1 z2 z3 z4 z5 z6 z7
  go_upto_region 5 with fail
  rw [← zeroT, ← unhide Ht]
  clear Ht
  generalize (W1.alloc (.cells (tabV 51 (tcell (fun _ => false) 0)) 71)) = W2 at *
  have CC := hide (unhide CS W2 t ((unhide HA).keep (unhide HO2) (fun h => h)) (unhide HT0) htx)
  generalize tabV 51 (tcell (fun _ => false) 0) = zt at *
  obtain ⟨SF, eSF⟩ : ∃ s, s = mrk (mrk (fun _ => false) F.ids) fl := ⟨_, rfl⟩
  rw [← eSF] at HS
  have ESF := hide eSF
  clear eSF CS s1
  go_wp2_with fail
  refine (unhide CC).mono ?_
  rintro e w3 ⟨rfl, hT3, ho3⟩
  have o3 : Only (fun _ => False) w w3 := (unhide HO2).trans ho3 (fun k hk e => by omega)
  have h3 := (unhide HA).keep o3 (fun h => h)
  have t3 := hT3.lt
  have x3 := h3.lt
  obtain ⟨y1, _⟩ := hT3.bad_
  obtain ⟨y2, _⟩ := hT3.files_
  obtain ⟨y3, _⟩ := h3.files_
  have e1 : ((L.length : Int) != (L.length : Int)) = false := by simp
  have e2 : decide ((8 : Int) < (L.length : Int)) = false := by simp; omega
  have HT3 := hide hT3
  have HO3 := hide o3
  clear hT3 ho3 o3 h3 HT0 HO2 CC
  go_wp2_with fail
  go_quiet (fail)
  have HO4 := hide ((unhide HO3).drewO nq)
  have HT4 := hide ((unhide HT3).keep ((Only.refl (fun _ => False) w3).drewO nq) (fun h => h))
  generalize w3.drewN nq = W4 at *
  have h4 := (unhide HA).keep (unhide HO4) (fun h => h)
  have x4 := h4.lt
  obtain ⟨y4, _⟩ := h4.free_
  clear HT3 HO3 y1 y2 y3 t3 x3 h4
  go_wp2_with fail
  go_loopw [5, 6] (fun cv nv wr => ∃ (i p : Nat) (l : List Nat) (S1 : Nat → Bool), cv = .int .i64 p ∧ nv = .int .i64 i ∧ FreeL P l p ∧ i + l.length ≤ 48 ∧ l.Nodup ∧ (∀ c ∈ l, S1 c = false) ∧ SF = mrk S1 l ∧ TAt wr t S1 L.length ∧ Only (fun _ => False) w wr) (fun _ nv _ => (49 - intOf nv).toNat)
  case atStart =>
    obtain ⟨f1, f2, f3⟩ := unhide HF
    exact ⟨0, fr, fl, _, rfl, rfl, f1, by omega, f2, f3, unhide ESF, unhide HT4, unhide HO4⟩
  case round =>
    clear HF ESF HT4 HO4 y4 x4
    obtain ⟨i, p, l, S1, rfl, rfl, hf, hi, hn, hun, hSF, hT, ho⟩ := hrel
    have a1 : decide ((i : Int) < 49) = true := by simp; omega
    have h := (unhide HA).keep ho (fun h => h)
    have xr := h.lt
    have tr := hT.lt
    cases l with
    | nil =>
      have hp0 : p = 0 := hf
      have p2 : ((p : Int) != 0) = false := by rw [hp0]; rfl
      have hS : SF = S1 := by rw [hSF]; exact mrk_nil _
      rw [← hS] at hT
      have HT := hide hT
      have HO := hide ho
      have C3' := hide (unhide C3 _ ho)
      clear hf hp0 hSF hS hT ho h hun hn
      go_wp2_with fail
      go_loopw [8] (fun iv wq => ∃ j : Nat, iv = .int .i64 j ∧ 1 ≤ j ∧ j ≤ 49 ∧ wr = wq) (fun iv _ => (49 - intOf iv).toNat)
      case atStart => exact ⟨1, rfl, by omega, by omega, rfl⟩
      case round =>
        obtain ⟨j, rfl, hj1, hj2, rfl⟩ := hrel
        by_cases hj : j < 49
        · have b1 : decide ((j : Int) < 49) = true := by simp; omega
          have b2 : (j : Int) < 49 := by omega
          obtain ⟨y5, _⟩ := (unhide HT).cel j hj
          rw [unhide HS j hj1 hj] at y5
          go_wp2_with fail
          go_roundw
          case rel => exact ⟨j + 1, by go_num, by omega, by omega, by first | rfl | trivial⟩
          case measure => simp [intOf]; omega
        · have b1 : decide ((j : Int) < 49) = false := by simp; omega
          have b1' : ¬ (j : Int) < 49 := by omega
          go_wp2_with fail
          refine (unhide C3').mono ?_
          rintro e w5 ⟨v, rfl, hv, _, ho5⟩
          have C4' := hide (unhide C4 _ _ hv)
          go_wp2_with fail
          refine (unhide C4').mono ?_
          rintro e w6 ⟨rfl, ho6⟩
          go_wp2_with fail
          go_ret
          exact ⟨rfl, ((unhide HO).trans ho5 (fun _ _ h => h)).trans ho6 (fun _ _ h => h)⟩
    | cons c l' =>
      obtain ⟨rfl, h2, h3, h4⟩ := hf
      have hn' := List.nodup_cons.1 hn
      have C1 := hide (meet_any hT p h2.1 h2.2 (hun p (by simp)))
      have p1 : (p : Int) < 49 := by omega
      have p2 : ((p : Int) != 0) = true := by simp; omega
      simp only [List.length_cons] at hi
      have hun' : ∀ c ∈ l', updT S1 p true c = false := fun c hc => by
        rw [updT_other _ _ _ _ (fun e => hn'.1 (by rw [← e]; exact hc))]
        exact hun c (by simp [hc])
      have Hst : Hid (FreeL P l' (P p).next ∧ l'.Nodup ∧ (∀ c ∈ l', updT S1 p true c = false) ∧ SF = mrk (updT S1 p true) l') := hide ⟨h4, hn'.2, hun', by rw [hSF, mrk_cons]⟩
      have HH := hide h
      have HO := hide ho
      have H3 := hide h3
      clear hn hn' hun hun' hSF h ho h3 h4 hT
      generalize hq0 : (P p).next = q at *
      go_wp2_with fail
      refine (unhide C1).mono ?_
      rintro e w1 ⟨rfl, hT1, ho1⟩
      have h1 := (unhide HH).keep ho1 (fun e => hxt e)
      have hxr1 := h1.lt
      have htr1 := hT1.lt
      obtain ⟨bd1, bdf1⟩ := hT1.bad_
      obtain ⟨⟨z0, _⟩, ⟨z1, _⟩, ⟨z2, _⟩, ⟨z3, _⟩, ⟨z4, _⟩, ⟨z5, _⟩, ⟨z6, _⟩, ⟨z7, _⟩⟩ := h1.all p h2.2
      rw [unhide H3] at z0 z1 z2 z3 z4 z5 z6 z7
      have z1 : w1.cell? ⟨x, p * 8 + 1, none⟩ = some (.int .i64 0) := z1
      have z6 : w1.cell? ⟨x, p * 8 + 6, none⟩ = some (.int .i64 0) := z6
      have z7 : w1.cell? ⟨x, p * 8 + 7, none⟩ = some (.int .i64 0) := z7
      have o8 : Only (fun _ => False) w1 (w1.alloc (.cells #[.string (st []), .int .i64 0, .int .i64 (q : Int), .bool false, .string (st []), .int .i64 0, .int .i64 0, .int .i64 0] 46)) := (Only.refl _ w1).alloc _
      have HT8 := hide (hT1.keep o8 (fun h => h))
      have HO8 := hide (((unhide HO).trans ho1 (fun k hk e => by omega)).trans o8 (fun _ _ h => h))
      clear o8 hT1 h1 ho1 HH HO H3 hq0
      go_wp2_with fail
      go_roundw
      case rel =>
        obtain ⟨s1, s2, s3, s4⟩ := unhide Hst
        exact ⟨i + 1, q, l', _, rfl, by go_num, s1, by omega, s2, s3, s4, unhide HT8, unhide HO8⟩
      case measure => simp [intOf]; omega
end
end Go.Proofs.Qxb6500418a
