/-
  OWN WORK. THE GRAPH: the refs object is read.
-/
import Derived.Test.Qxb6500417aGreatGDec2
namespace Go.Proofs.Qxb6500417aGreat
open Go.RowKit Go.PlainAid
set_option linter.unusedSimpArgs false
set_option linter.unusedVariables false

def rpre (T : Gt) (i : Nat) : List Nat := seq8 T.nx ++ T.aux :: (nameB T.name ++ T.at_ :: T.mg :: T.nb :: (T.bs.take i).flatMap bdat)
theorem rpre_name (T : Gt) : rdat T = (seq8 T.nx ++ [T.aux]) ++ nameB T.name ++ (T.at_ :: T.mg :: T.nb :: T.bs.flatMap bdat) := by simp [rdat]
theorem rpre_at (T : Gt) {i : Nat} (hi : i < T.nb) : rdat T = rpre T i ++ nameB (T.b i).name ++ ((T.b i).id :: (T.bs.drop (i + 1)).flatMap bdat) := by
  have hl : i < T.bs.length := by rw [bs_len]; exact hi
  have e : T.bs = T.bs.take i ++ T.b i :: T.bs.drop (i + 1) := by
    conv => lhs; rw [← List.take_append_drop i T.bs, List.drop_eq_getElem_cons hl]
    simp [Gt.bs]
  conv => lhs; unfold rdat; rw [e]
  simp [rpre, bdat]
theorem rpre_succ (T : Gt) {i : Nat} (hi : i < T.nb) : (rpre T (i + 1)).length = (rpre T i).length + 1 + (T.b i).name.size + 1 := by
  unfold rpre
  rw [bs_take T hi]
  simp [seq8_len, nameB_len]
  omega
theorem rdat_aux (T : Gt) : dF (rdat T) 8 = T.aux := by
  unfold dF rdat
  rw [List.getD_eq_getElem?_getD, List.getElem?_append_right (by rw [seq8_len]; omega), seq8_len]
  rfl
theorem rdat_tail (T : Gt) (j : Nat) (hj : j < 3) : dF (rdat T) (10 + T.name.size + j) = [T.at_, T.mg, T.nb].getD j 0 := by
  unfold dF
  rw [rpre_name, List.getD_eq_getElem?_getD, List.getElem?_append_right (by simp [seq8_len, nameB_len]; omega)]
  have e : 10 + T.name.size + j - (seq8 T.nx ++ [T.aux] ++ nameB T.name).length = j := by simp [seq8_len, nameB_len]; omega
  rw [e]
  have h3 : j = 0 ∨ j = 1 ∨ j = 2 := by omega
  rcases h3 with rfl | rfl | rfl <;> rfl
theorem rdat_id (T : Gt) {i : Nat} (hi : i < T.nb) : dF (rdat T) ((rpre T i).length + 1 + (T.b i).name.size) = (T.b i).id := by
  unfold dF
  rw [rpre_at T hi, List.getD_eq_getElem?_getD, List.getElem?_append_right (by simp [nameB_len]; omega)]
  have e : (rpre T i).length + 1 + (T.b i).name.size - (rpre T i ++ nameB (T.b i).name).length = 0 := by simp [nameB_len]; omega
  rw [e]
  rfl
/-- The local table, its first i rows set. -/
def brL (b : Nat → Br) (i : Nat) : Nat → Br := fun j => if j < i then b j else Br.zero
def brA (b : Nat → Br) : Array Value := tabV 8 (fun j => brCell (b (j / 2)) (j % 2))
theorem brA_set (b : Nat → Br) (i : Nat) (hi : i < 4) : ((brA (brL b i)).setIfInBounds (i * 2) (.string (b i).name)).setIfInBounds (i * 2 + 1) (.int .i64 ((b i).id : Int)) = brA (brL b (i + 1)) := by
  unfold brA
  simp only [tabV_set]
  apply tabV_congr
  intro j hj
  by_cases e1 : j = i * 2 + 1
  · subst e1
    rw [if_pos rfl]
    have h1 : (i * 2 + 1) / 2 = i := by omega
    have h2 : (i * 2 + 1) % 2 = 1 := by omega
    rw [h1, h2]
    unfold brL
    rw [if_pos (by omega)]
    rfl
  · rw [if_neg e1]
    by_cases e0 : j = i * 2
    · subst e0
      rw [if_pos rfl]
      have h1 : (i * 2) / 2 = i := by omega
      have h2 : (i * 2) % 2 = 0 := by omega
      rw [h1, h2]
      unfold brL
      rw [if_pos (by omega)]
      rfl
    · rw [if_neg e0]
      unfold brL
      by_cases h : j / 2 < i
      · rw [if_pos h, if_pos (by omega)]
      · rw [if_neg h, if_neg (by omega)]
theorem brA_zero (b : Nat → Br) : brA (brL b 0) = #[.string ⟨#[]⟩, .int .i64 0, .string ⟨#[]⟩, .int .i64 0, .string ⟨#[]⟩, .int .i64 0, .string ⟨#[]⟩, .int .i64 0] := rfl
theorem brA_get (b : Nat → Br) (i : Nat) (hi : i < 4) : (brA b)[i * 2]? = some (.string (b i).name) ∧ (brA b)[i * 2 + 1]? = some (.int .i64 ((b i).id : Int)) := by
  unfold brA
  rw [tabV_get _ _ _ (by omega), tabV_get _ _ _ (by omega)]
  have h1 : (i * 2) / 2 = i := by omega
  have h2 : (i * 2) % 2 = 0 := by omega
  have h3 : (i * 2 + 1) / 2 = i := by omega
  have h4 : (i * 2 + 1) % 2 = 1 := by omega
  rw [h1, h2, h3, h4]
  exact ⟨rfl, rfl⟩
def Gt.withRefs (T T0 : Gt) : Gt := { T with b := T0.b, nb := T0.nb, name := T0.name, at_ := T0.at_, mg := T0.mg, aux := T0.aux, nx := T0.nx }
def putBs (w : World) (g : Nat) (b : Nat → Br) : World := (((((((w.setCell ⟨g, 344, none⟩ (.string (b 0).name)).setCell ⟨g, 345, none⟩ (.int .i64 ((b 0).id : Int))).setCell ⟨g, 346, none⟩ (.string (b 1).name)).setCell ⟨g, 347, none⟩ (.int .i64 ((b 1).id : Int))).setCell ⟨g, 348, none⟩ (.string (b 2).name)).setCell ⟨g, 349, none⟩ (.int .i64 ((b 2).id : Int))).setCell ⟨g, 350, none⟩ (.string (b 3).name)).setCell ⟨g, 351, none⟩ (.int .i64 ((b 3).id : Int))
theorem GH.putBs {w : World} {g t : Nat} {T : Gt} (h : GH w g t T) (b : Nat → Br) : GH (putBs w g b) g t { T with b := b } := by
  have := (((h.putB 0 (by omega) (b 0)).putB 1 (by omega) (b 1)).putB 2 (by omega) (b 2)).putB 3 (by omega) (b 3)
  refine GH.congr this ⟨fun _ _ => rfl, fun _ _ => rfl, rfl, fun i hi => ?_, rfl, rfl, rfl, rfl, rfl, rfl⟩
  show updT (updT (updT (updT T.b 0 (b 0)) 1 (b 1)) 2 (b 2)) 3 (b 3) i = b i
  match i, hi with
  | 0, _ => rfl
  | 1, _ => rfl
  | 2, _ => rfl
  | 3, _ => rfl
  | n + 4, hi => omega
set_option maxRecDepth 100000 in
set_option maxHeartbeats 4000000 in
theorem readRefs_any {w : World} {g t : Nat} {T : Gt} (h : GH w g t T) (T0 : Gt) (hW : RefW T0) (hz : ∀ k, T0.nb ≤ k → T0.b k = Br.zero) (v : Value) (N : Nat) (hN : (rdat T0).length = N) (hB : BytesAt w v N (dF (rdat T0))) (hcap : ∀ a n c, v = .slice a n c → N ≤ c ∧ c ≤ 1000) (hvg : ∀ y, v.ownBlock = some y → y ≠ g) :
    Calls Tryz.prog 124 #[.pointer (some ⟨g, 0, none⟩), v] w fun e w' => e = .returned (.tuple #[]) ∧ GH w' g t (T.withRefs T0) ∧ Only (fun y => y = g) w w' := by
  have hN51 : N ≤ 51 := by rw [← hN]; exact hW.len
  have hlen : N = 9 + (T0.name.size + 1) + (T0.bs.flatMap bdat).length + 3 := by rw [← hN, rpre_name]; simp [seq8_len, nameB_len]; omega
  have hlt := hW.lt
  obtain ⟨gd, cap, rfl, hc⟩ := hB.cells (by omega)
  have hgd : gd ≠ g := hvg gd rfl
  have hgl : gd < w.heap.size := World.block_lt_of_cell? w _ (hc 0 (by omega))
  have C1 := nameAt_any (w := w) (.slice (some ⟨gd, 0, none⟩) N cap) (seq8 T0.nx ++ [T0.aux]) T0.name (T0.at_ :: T0.mg :: T0.nb :: T0.bs.flatMap bdat) 9 N (by simp [seq8_len]) (by rw [← rpre_name]; exact hN) (by rw [← rpre_name]; exact hB) (by rw [← rpre_name]; exact hlt) hW.nm (by omega) hcap
  have CL : ∀ i, i < T0.nb → ∀ W, Only (fun _ => False) w W → Calls Tryz.prog 170 #[.slice (some ⟨gd, 0, none⟩) N cap, .int .i64 (rpre T0 i).length] W fun e w' => e = .returned (.tuple #[.string (T0.b i).name, .int .i64 (((rpre T0 i).length + 1 + (T0.b i).name.size : Nat) : Int), .bool true]) ∧ W = w' := fun i hi W ho =>
    nameAt_any (.slice (some ⟨gd, 0, none⟩) N cap) (rpre T0 i) (T0.b i).name _ _ N rfl (by rw [← rpre_at T0 hi]; exact hN) (by rw [← rpre_at T0 hi]; exact hB.keep ho (fun _ _ h => h)) (by rw [← rpre_at T0 hi]; exact hlt) (hW.bn i hi).1 (by omega) hcap
  have CS : ∀ W, Only (fun _ => False) w W → Calls Tryz.prog 169 #[.slice (some ⟨gd, 0, none⟩) N cap] W fun e w' => e = .returned (.int .i64 T0.nx) ∧ W = w' := fun W ho =>
    seqAt_any _ T0.nx (T0.aux :: (nameB T0.name ++ T0.at_ :: T0.mg :: T0.nb :: T0.bs.flatMap bdat)) N hN (hB.keep ho (fun _ _ h => h)) hW.nx
  have y0 := hc (10 + T0.name.size + 0) (by omega)
  have y1 := hc (10 + T0.name.size + 1) (by omega)
  have y2 := hc (10 + T0.name.size + 2) (by omega)
  rw [rdat_tail T0 0 (by omega)] at y0
  rw [rdat_tail T0 1 (by omega)] at y1
  rw [rdat_tail T0 2 (by omega)] at y2
  have e9 : 9 + 1 + T0.name.size = 10 + T0.name.size := by omega
  rw [e9] at C1
  generalize hq : 10 + T0.name.size = q at *
  have r1 := hW.b4
  have r3 := hW.at_
  have r4 := hW.mg
  have a1 : decide ((N : Int) < 9) = false := by simp; omega
  have a2 : decide ((N : Int) - (q : Int) < 3) = false := by simp; omega
  have a3 : (q : Int) < (N : Int) := by omega
  have a4 : (q : Int) + 1 < (N : Int) := by omega
  have a5 : (q : Int) + 2 < (N : Int) := by omega
  have a6 : decide ((48 : Int) < (T0.at_ : Int)) = false := by simp; omega
  have a7 : decide ((48 : Int) < (T0.mg : Int)) = false := by simp; omega
  have a8 : decide ((4 : Int) < (T0.nb : Int)) = false := by simp; omega
  have hqs : (rpre T0 0).length = q + 3 := by unfold rpre; simp [seq8_len, nameB_len]; omega
  have C1 := hide C1
  have CL := hide CL
  have CS := hide CS
  have HW := hide hW
  have Hz := hide hz
  have Hc := hide hc
  have HG := hide h
  have hgw := h.lt
  have Hlen := hide hlen
  have HNr := hide hN
  have Hqs := hide hqs
  have y0' : w.cell? ⟨gd, q, none⟩ = some (.int .u8 (T0.at_ : Int)) := y0
  have y1' : w.cell? ⟨gd, q + 1, none⟩ = some (.int .u8 (T0.mg : Int)) := y1
  have y2' : w.cell? ⟨gd, q + 2, none⟩ = some (.int .u8 (T0.nb : Int)) := y2
  have hq60 : q ≤ 60 := by omega
  have hq0 : 10 ≤ q := by omega
  clear hc hB hcap hvg hlt hlen hW hz h y0 y1 y2 hN hqs hq e9
  go_enter Tryz.func124, Tryz.ntmps124
  go_wp2_with fail
  refine (unhide C1).mono ?_
  rintro e w1 ⟨rfl, rfl⟩
  clear C1
  go_upto_region 3 with fail
  go_quiet (fail)
  have HO1 : Hid (Only (fun _ => False) w (w.drewN nq)) := hide ((Only.refl _ w).drewO nq)
  have hs1 : w.heap.size ≤ (w.drewN nq).heap.size := by simp
  generalize hW1 : w.drewN nq = W1 at *
  clear hW1 y0' y1' y2'
  go_wp2_with fail
  go_loopw [5, 11] (fun av iv wr => ∃ i : Nat, iv = .int .i64 i ∧ i ≤ T0.nb ∧ av = .int .i64 (rpre T0 i).length ∧ Has wr W1.heap.size (brA (brL T0.b i)) 87 ∧ Only (fun _ => False) W1 wr) (fun _ iv _ => T0.nb - (intOf iv).toNat)
  case atStart =>
    refine ⟨0, rfl, by omega, by rw [unhide Hqs]; go_num, ?_, (Only.refl _ _).alloc _⟩
    rw [brA_zero]
    exact Has.new W1 _ _
  case round =>
    obtain ⟨i, rfl, hi, rfl, hK, hO⟩ := hrel
    have hO2 := (unhide HO1).trans hO (fun _ _ h => h)
    by_cases hil : i < T0.nb
    · have b1 : decide ((i : Int) < (T0.nb : Int)) = true := decide_eq_true (by omega)
      have b1n : decide (i < T0.nb) = true := decide_eq_true hil
      have b2 : (i : Int) < 4 := by omega
      have C2 := hide (unhide CL i hil wr hO2)
      have hle : (rpre T0 i).length + 1 + (T0.b i).name.size < N := by
        rw [← unhide HNr, rpre_at T0 hil]
        simp [nameB_len]; omega
      have hB := hO2.block gd hgl (fun h => h)
      have x1 := (World.cell?_of_block hB).trans (unhide Hc ((rpre T0 i).length + 1 + (T0.b i).name.size) hle)
      rw [rdat_id T0 hil] at x1
      obtain ⟨g1, g2⟩ := (unhide HW).bn i hil
      have hsu := rpre_succ T0 hil
      have hset := brA_set T0.b i (by omega)
      obtain ⟨m1, m2⟩ := brA_get (brL T0.b i) i (by omega)
      have k1 := hK.cell (i * 2)
      have k2 := hK.cell (i * 2 + 1)
      rw [m1] at k1
      rw [m2] at k2
      have f1 := hK.free (i * 2)
      have f2 := hK.free (i * 2 + 1)
      have b3 : (((rpre T0 i).length + 1 + (T0.b i).name.size : Nat) : Int) < (N : Int) := by omega
      have b4 : decide ((N : Int) ≤ (((rpre T0 i).length + 1 + (T0.b i).name.size : Nat) : Int)) = false := decide_eq_false (by omega)
      have b5 : decide ((48 : Int) < ((T0.b i).id : Int)) = false := decide_eq_false (by omega)
      have HK := hide hK
      have HO := hide hO
      have Hsu := hide hsu
      have Hset := hide hset
      clear hK hO hO2 hB hsu hset m1 m2
      generalize hp : (rpre T0 i).length + 1 + (T0.b i).name.size = p at *
      generalize hL : (rpre T0 i).length = L at *
      generalize hn : (T0.b i).name = nm at *
      generalize hd : (T0.b i).id = idd at *
      have hp60 : p ≤ 60 := by omega
      clear hp hL hn hd
      go_wp2_with fail
      refine (unhide C2).mono ?_
      rintro e w3 ⟨rfl, rfl⟩
      clear C2
      go_wp2_with fail
      go_roundw
      case rel =>
        refine ⟨i + 1, by go_num, by omega, by rw [unhide Hsu]; go_num, ?_, ?_⟩
        · rw [← unhide Hset]
          exact ((unhide HK).setCell (i * 2) _).setCell (i * 2 + 1) _
        · exact ((unhide HO).setCell (fun h => by simp at h) _).setCell (fun h => by simp at h) _
      case measure => simp [intOf]; omega
    · have b1 : decide ((i : Int) < (T0.nb : Int)) = false := decide_eq_false (by omega)
      have b1n : decide (i < T0.nb) = false := decide_eq_false hil
      have e1 : i = T0.nb := by omega
      subst e1
      have hbz : brL T0.b T0.nb = T0.b := by
        funext j
        unfold brL
        by_cases hj : j < T0.nb
        · rw [if_pos hj]
        · rw [if_neg hj, unhide Hz j (by omega)]
      rw [hbz] at hK
      have C3 := hide (unhide CS wr hO2)
      have hB := hO2.block gd hgl (fun h => h)
      have x1 := (World.cell?_of_block hB).trans (unhide Hc 8 (by omega))
      rw [rdat_aux] at x1
      have hG := (unhide HG).quiet hO2
      have hO3 : Hid (Only (fun y => y = g) w wr) := hide (hO2.mono (fun _ _ h => h.elim))
      have z5 := hG.nx_
      have z4 := hG.aux_
      have z3 := hG.name_
      have z2 := hG.at__
      have z1 := hG.mg_
      have z0 := hG.nb_
      have zb0 := hG.brn 0 (by omega)
      have zb1 := hG.bri 0 (by omega)
      have zb2 := hG.brn 1 (by omega)
      have zb3 := hG.bri 1 (by omega)
      have zb4 := hG.brn 2 (by omega)
      have zb5 := hG.bri 2 (by omega)
      have zb6 := hG.brn 3 (by omega)
      have zb7 := hG.bri 3 (by omega)
      simp only [Nat.zero_mul, Nat.add_zero, Nat.one_mul, Nat.reduceMul, Nat.reduceAdd] at zb0 zb1 zb2 zb3 zb4 zb5 zb6 zb7
      have k0 : wr.cell? ⟨W1.heap.size, 0, none⟩ = some (.string (T0.b 0).name) := hK.cell 0
      have k1 : wr.cell? ⟨W1.heap.size, 1, none⟩ = some (.int .i64 ((T0.b 0).id : Int)) := hK.cell 1
      have k2 : wr.cell? ⟨W1.heap.size, 2, none⟩ = some (.string (T0.b 1).name) := hK.cell 2
      have k3 : wr.cell? ⟨W1.heap.size, 3, none⟩ = some (.int .i64 ((T0.b 1).id : Int)) := hK.cell 3
      have k4 : wr.cell? ⟨W1.heap.size, 4, none⟩ = some (.string (T0.b 2).name) := hK.cell 4
      have k5 : wr.cell? ⟨W1.heap.size, 5, none⟩ = some (.int .i64 ((T0.b 2).id : Int)) := hK.cell 5
      have k6 : wr.cell? ⟨W1.heap.size, 6, none⟩ = some (.string (T0.b 3).name) := hK.cell 6
      have k7 : wr.cell? ⟨W1.heap.size, 7, none⟩ = some (.int .i64 ((T0.b 3).id : Int)) := hK.cell 7
      have hne : W1.heap.size ≠ g := by omega
      have hne' : g ≠ W1.heap.size := by omega
      have hng' : g ≠ gd := fun e => hgd e.symm
      have a9 : (8 : Int) < (N : Int) := by omega
      have hr5 := (unhide HW).aux
      have hr6 := (unhide HW).nx
      have HG2 := hide hG
      clear hG hK hO hO2 hB hbz
      go_wp2_with fail
      refine (unhide C3).mono ?_
      rintro e w3 ⟨rfl, rfl⟩
      clear C3
      go_wp2_with fail
      go_end0
      refine ⟨rfl, ?_, ?_⟩
      · have := (((((((unhide HG2).putNx T0.nx).putAux T0.aux).putName T0.name).putAt T0.at_).putMg T0.mg).putBs T0.b).putNb T0.nb
        exact this
      · have o := (unhide hO3)
        exact (((((((((((((o.setCell (fun _ => rfl) _).setCell (fun _ => rfl) _).setCell (fun _ => rfl) _).setCell (fun _ => rfl) _).setCell (fun _ => rfl) _).setCell (fun _ => rfl) _).setCell (fun _ => rfl) _).setCell (fun _ => rfl) _).setCell (fun _ => rfl) _).setCell (fun _ => rfl) _).setCell (fun _ => rfl) _).setCell (fun _ => rfl) _).setCell (fun _ => rfl) _).setCell (fun _ => rfl) _
end Go.Proofs.Qxb6500417aGreat
