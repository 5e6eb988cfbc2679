/-
  OWN WORK. THE FOREST MODEL: a state's clone.
-/
import Derived.Test.Qxb6500410aGreatZRow
import Derived.BigRegion
namespace Go.Proofs.Qxb6500410aGreat
open Go.RowKit Go.PlainAid
set_option linter.unusedSimpArgs false
set_option linter.unusedVariables false

theorem run_copy_row2 {P : Program} (w : World) (dT sT ty elem : TypeId) (g dLen dCap : Nat) (a : Addr) (sLen sCap n : Nat) (cur : Array Value) (t : TypeId) (cs : List Value)
    (hu : P.underlying dT = some (.slice elem)) (hs : (P.info? elem).map (·.size) = some 2)
    (hg : w.heap[g]? = some (.cells cur t (0, 0))) (hn : n = Nat.min sLen dLen) (hc : cs.length = n * 2)
    (hsrc : ∀ j v, cs[j]? = some v → w.cell? (a.add j) = some v) (hfit : cs.length ≤ cur.size) (h1 : ∀ v ∈ cs, v.oneCell' = true) :
    (Builtin.copy_ #[dT, sT] ty #[.slice (some ⟨g, 0, none⟩) dLen dCap, .slice (some a) sLen sCap]).run P w =
      .ok (goInt n) (w.setRow g (cs ++ cur.toList.drop cs.length).toArray) := by
  have hl := run_loadCells_list (P := P) w a cs hsrc
  have hst := run_storeCells_at P g 0 t cs 0 cur w hg (by simpa using hfit) h1
  cases hq : P.info? elem with
  | none => simp [hq] at hs
  | some i =>
    have hi : i.size = 2 := by simpa [hq] using hs
    simp only [Nat.zero_add, List.take_zero, List.nil_append] at hst
    simp [Builtin.copy_, run_underlying hu, Builtin.lenOf, Builtin.firstCells, sizeOf, typeInfo, hq, hi, ← hn, ← hc, hl, hst]
theorem Tryz.infoKVz : (Tryz.prog.info? 110).map (fun i => (i.zero, i.size, i.bytes)) = some (some (.agg #[.string ⟨#[]⟩, .string ⟨#[]⟩]), 2, 32) := by kernel_rfl
theorem run_make_kvs (w : World) (n : Nat) (hn : n ≤ 1000) : ∃ cur : Array Value, cur.size = n * 2 ∧ (Instr.makeSlice 78 (.int .i64 n) (.int .i64 n)).run Tryz.prog w = .ok (.slice (some ⟨w.heap.size, 0, none⟩) n n) (w.alloc (.cells cur 110)) := by
  obtain ⟨i, hi, hz, hs, hb⟩ := info_parts Tryz.infoKVz
  have := run_make (P := Tryz.prog) w 78 110 i _ Tryz.underlying78 hi hz .i64 .i64 (n : Int) (n : Int) (by omega) (by omega) (by rw [hb]; omega) (by omega)
  refine ⟨_, ?_, this⟩
  simp [madeCells, Value.cells, hs]
/-- copy into a fresh row. -/
theorem zcopy {w3 : World} {z : Nat} {cur : Array Value} {l : List KV} {a : Option Addr} {cap : Nat} (O : OwnK w3 (.slice a l.length cap) l) (Z : Has w3 z cur 110) (hcur : cur.size = l.length * 2) :
    ∃ w4, (∀ ty, (Builtin.copy_ #[78, 78] ty #[.slice (some ⟨z, 0, none⟩) l.length l.length, .slice a l.length cap]).run Tryz.prog w3 = .ok (goInt l.length) w4) ∧ Has w4 z (zkv l).toArray 110 ∧ Only (fun k => k = z) w3 w4 := by
  obtain ⟨i, hi, hzr, hs, hb⟩ := info_parts Tryz.infoKVz
  rcases O.2 with ⟨he, h0⟩ | ⟨ib, cap', cur', he, _⟩
  · have hn : l = [] := List.eq_nil_of_length_eq_zero h0
    subst hn
    simp at he
    obtain ⟨rfl, rfl⟩ := he
    refine ⟨w3, fun ty => run_copy_nil Tryz.prog w3 78 78 ty 110 _ 0 0 Tryz.underlying78 (by rw [hi]; rfl), ?_, Only.refl _ _⟩
    have : cur = #[] := by
      have : cur.size = 0 := by simpa using hcur
      exact Array.eq_empty_of_size_eq_zero this
    rw [this] at Z
    exact Z
  · obtain ⟨rfl, rfl⟩ : a = some ⟨ib, 0, none⟩ ∧ cap = cap' := by
      have := he
      simp at this
      exact this
    have hc3 := World.ownsRow.cells O (g := ib) (by first | exact rfl | simp [Value.ownBlock])
    refine ⟨_, fun ty => run_copy_row2 (P := Tryz.prog) w3 78 78 ty 110 z l.length l.length ⟨ib, 0, none⟩ l.length cap l.length cur 110 (zkv l) Tryz.underlying78 (by rw [hi]; simp [hs]) Z (by simp) (zkv_len _) (fun j v hv => hc3 j v hv) (by rw [hcur, zkv_len]; exact Nat.le_refl _) (zkv_one _), ?_, setRow_only⟩
    have hd : cur.toList.drop (zkv l).length = [] := by
      rw [List.drop_eq_nil_iff, zkv_len]
      simp [hcur]
    rw [hd, List.append_nil]
    exact setRow_heap w3 z _ _ 110 _ Z
theorem OwnK.made {w : World} {z : Nat} {l : List KV} (h : Has w z (zkv l).toArray 110) (hl : l.length ≤ 1000) : OwnK w (.slice (some ⟨z, 0, none⟩) l.length l.length) l := by
  refine ⟨zkv_len l, .inr ⟨z, l.length, _, rfl, Nat.zero_le _, h, Nat.le_refl _, ?_, ?_, ?_⟩⟩
  · unfold maxLen; omega
  · simp [zkv_len]
  · rw [List.toList_toArray, ← zkv_len, List.take_length]
/-- Fresh rows, each in a block of its own. -/
structure Fre (lo : Nat) (es : Nat → Value) (n : Nat) : Prop where
  low : ∀ i, i < n → ∃ g, (es i).ownBlock = some g ∧ lo ≤ g
  ap : ∀ i j g, i < n → j < n → i ≠ j → (es i).ownBlock = some g → (es j).ownBlock ≠ some g
def putE (es : Nat → Value) (i : Nat) (v : Value) : Nat → Value := fun j => if j = i then v else es j
theorem Has.setRowZ {w : World} {k : Nat} {c : Array Value} {t : TypeId} (h : Has w k c t) (d : Array Value) : Has (w.setRow k d) k d t := setRow_heap w k c d t _ h
theorem res1_zs {fn : Func} {p : Tmp} (h : fn.results = #[.cell p 81]) (tmps : Array Value) {w : World} {g : Nat} {S : Vu} {es : Nat → Value} (hp : tmps.getD p undef = .pointer (some ⟨g, 0, none⟩)) (hn : Has w g (tabV 16 (stF S es)) 81) : (results fn tmps).run Tryz.prog w = .ok (stV S es) w := by
  exact results_cell_row h tmps w g 81 (tabV 16 (stF S es)) (0, 0) _ hp hn Tryz.underlying81 rfl (by rw [zs_size, tabV_size])
/-- The clone under way: block c holds it, n trees are copied. -/
structure CL (w : World) (c : Nat) (S : Vu) (n : Nat) (es : Nat → Value) (wr : World) : Prop where
  has : Has wr c (tabV 16 (stF S es)) 81
  own : ∀ i, i < n → OwnK wr (es i) (eS S i)
  nil : ∀ i, n ≤ i → es i = .slice none 0 0
  fre : Fre w.heap.size es n
  cne : ∀ i, i < n → (es i).ownBlock ≠ some c
  ho : Only (fun _ => False) w wr
  cl : w.heap.size ≤ c
theorem CL.push {w : World} {c : Nat} {S : Vu} {n : Nat} {es : Nat → Value} {wr w4 : World} {z : Nat} {v : Value} (h : CL w c S n es wr) (hn : n < 8) (hv : v.ownBlock = some z) (hz : wr.heap.size ≤ z) (O : OwnK w4 v (eS S n)) (H : Has w4 c (tabV 16 (stF S (putE es n v))) 81) (ho : Only (fun k => k = c) wr w4) (hc : ∀ i, i < n → OwnK w4 (es i) (eS S i)) : CL w c S (n + 1) (putE es n v) w4 := by
  have hs := h.ho.size
  have hcl := h.has.lt
  have low := h.fre.low
  refine ⟨H, fun i hi => ?_, fun i hi => ?_, ⟨fun i hi => ?_, fun i j g hi hj hij e1 e2 => ?_⟩, fun i hi e => ?_, h.ho.trans ho (fun k hk e => by have := h.cl; omega), h.cl⟩
  · unfold putE
    by_cases e : i = n
    · rw [if_pos e, e]; exact O
    · rw [if_neg e]; exact hc i (by omega)
  · unfold putE
    rw [if_neg (by omega)]
    exact h.nil i (by omega)
  · unfold putE
    by_cases e : i = n
    · rw [if_pos e]; exact ⟨z, hv, by omega⟩
    · rw [if_neg e]; exact low i (by omega)
  · unfold putE at e1 e2
    have lt : ∀ i g, i < n → (es i).ownBlock = some g → g < wr.heap.size := fun i g hi e => (h.own i hi).lt g e
    by_cases c1 : i = n
    · rw [if_pos c1] at e1
      rw [if_neg (by omega)] at e2
      rw [hv] at e1
      cases e1
      have := lt j _ (by omega) e2
      omega
    · rw [if_neg c1] at e1
      by_cases c2 : j = n
      · rw [if_pos c2] at e2
        rw [hv] at e2
        cases e2
        have := lt i _ (by omega) e1
        omega
      · rw [if_neg c2] at e2
        exact h.fre.ap i j g (by omega) (by omega) hij e1 e2
  · unfold putE at e
    by_cases c1 : i = n
    · rw [if_pos c1, hv] at e
      cases e
      omega
    · rw [if_neg c1] at e
      exact h.cne i (by omega) e
section
variable {w : World} {x o : Nat} {S : Vu} {es : Nat → Value}
set_option maxRecDepth 100000 in
set_option maxHeartbeats 8000000 in
theorem zclone_any (A : StA w x o S es) (E : ZE w es S) (hl : ∀ i, (eS S i).length ≤ 64) : Calls Tryz.prog 50 #[.pointer (some ⟨x, o, none⟩)] w fun e w' => ∃ es', e = .returned (stV S es') ∧ ZE w' es' S ∧ Fre w.heap.size es' 8 ∧ Only (fun _ => False) w w' := by
  have xlt : x < w.heap.size := World.block_lt_of_cell? w _ (A 0 (by omega))
  have Hr : Hid (Has ((w.alloc (.cells (tabV 16 (stF (fun _ => none) nilE)) 81)).alloc (.cells (tabV 16 (stF (fun _ => none) nilE)) 81)) w.heap.size (tabV 16 (stF (fun _ => none) nilE)) 81) := hide (Has.alloc (Has.new _ _ _) _)
  have Hc : Hid (Has ((w.alloc (.cells (tabV 16 (stF (fun _ => none) nilE)) 81)).alloc (.cells (tabV 16 (stF (fun _ => none) nilE)) 81)) (w.heap.size + 1) (tabV 16 (stF (fun _ => none) nilE)) 81) := hide (Has.new' _ _ _ _ (by simp))
  have Ho : Hid (Only (fun _ => False) w ((w.alloc (.cells (tabV 16 (stF (fun _ => none) nilE)) 81)).alloc (.cells (tabV 16 (stF (fun _ => none) nilE)) 81))) := hide (((Only.refl _ w).alloc _).alloc _)
  go_enter Tryz.func50, Tryz.ntmps50
  go_upto_region 2 with fail
  change Code.wp _ _ _ _ ((w.alloc (.cells (tabV 16 (stF (fun _ => none) nilE)) 81)).alloc (.cells (tabV 16 (stF (fun _ => none) nilE)) 81))
  generalize (w.alloc (.cells (tabV 16 (stF (fun _ => none) nilE)) 81)).alloc (.cells (tabV 16 (stF (fun _ => none) nilE)) 81) = w2 at *
  have A2 : ∀ j, j < 8 → w2.cell? ⟨x, o + j, none⟩ = some (stF S es j) := fun j hj => by
    rw [World.cell?_of_block ((unhide Ho).block x xlt (fun h => h))]
    exact A j (by omega)
  have b8 : (Tryz.prog.info? 77).map (·.size) = some 8 := by kernel_rfl
  have o8 : ∀ j, j < 8 → (stF S es j).oneCell' = true := fun j hj => by unfold stF; rw [if_pos hj]; rfl
  go_upto_region 3 with (first | (refine wpList_load_at rfl 77 _ rfl x o 8 rfl _ (stF S es) A2 Tryz.underlying77 rfl b8 ?_) | (refine wpList_store_at rfl 77 _ _ rfl (w.heap.size + 1) 0 8 (stF S es) rfl rfl 16 _ 81 (unhide Hc) b8 (by omega) o8 ?_))
  have C0 : CL w (w.heap.size + 1) S 0 nilE (w2.setRow (w.heap.size + 1) (tabV 16 fun j => if 0 ≤ j ∧ j < 0 + 8 then stF S es (j - 0) else stF (fun x => none) nilE j)) := by
    refine ⟨?_, fun i hi => absurd hi (by omega), fun i _ => rfl, ⟨fun i hi => absurd hi (by omega), fun i j g hi => absurd hi (by omega)⟩, fun i hi => absurd hi (by omega), (unhide Ho).trans setRow_only (fun k hk e => by omega), by omega⟩
    have := (unhide Hc).setRowZ (tabV 16 fun j => if 0 ≤ j ∧ j < 0 + 8 then stF S es (j - 0) else stF (fun x => none) nilE j)
    rw [tabV_congr 16 (g := stF S nilE) (fun j hj => by
      unfold stF
      by_cases c : j < 8
      · rw [if_pos (by omega), if_pos (by omega), if_pos c]; rfl
      · rw [if_neg (by omega), if_neg c, if_neg c])] at this
    rw [tabV_congr 16 (g := stF S nilE) (fun j hj => by
      unfold stF
      by_cases c : j < 8
      · rw [if_pos (by omega), if_pos (by omega), if_pos c]; rfl
      · rw [if_neg (by omega), if_neg c, if_neg c])]
    exact this
  have R0 := (unhide Hr).keep (w' := w2.setRow (w.heap.size + 1) (tabV 16 fun j => if 0 ≤ j ∧ j < 0 + 8 then stF S es (j - 0) else stF (fun x => none) nilE j)) setRow_only (by omega)
  have HC0 := hide (And.intro C0 R0)
  clear C0 R0 Hr Hc Ho A2 b8 o8
  generalize w2.setRow (w.heap.size + 1) (tabV 16 fun j => if 0 ≤ j ∧ j < 0 + 8 then stF S es (j - 0) else stF (fun x => none) nilE j) = w3 at *
  go_upto_region 4 with fail
  go_loopw [4] (fun hv wr => ∃ n es', hv = .int .i64 (n : Nat) ∧ n ≤ 8 ∧ CL w (w.heap.size + 1) S n es' wr ∧ Has wr w.heap.size (tabV 16 (stF (fun x => none) nilE)) 81) (fun hv _ => 8 - (intOf hv).toNat)
  case atStart => exact ⟨0, nilE, rfl, by omega, (unhide HC0).1, (unhide HC0).2⟩
  case round =>
    clear HC0
    obtain ⟨n, es', rfl, hn, C1, R1⟩ := hrel
    by_cases h8 : n < 8
    · have a1 : decide ((n : Int) < 8) = true := decide_eq_true (by omega)
      have a1p : (n : Int) < 8 := by omega
      have hnN : n < 8 := h8
      have sx : wr.cell? ⟨x, o + 8 + n, none⟩ = some (es n) := by
        rw [World.cell?_of_block (C1.ho.block x xlt (fun h => h)), Nat.add_assoc]
        rw [A (8 + n) (by omega)]
        unfold stF
        rw [if_neg (by omega), Nat.add_sub_cancel_left]
      have On := (E.own n h8).keep C1.ho (fun _ _ h => h)
      obtain ⟨a, cap, hes⟩ := On.shape
      rw [hes] at sx On
      obtain ⟨cur, hcur, hmk⟩ := run_make_kvs wr (eS S n).length (by have := hl n; omega)
      have cc : wr.cell? ⟨w.heap.size + 1, 8 + n, none⟩ = some (.slice none 0 0) := by
        rw [C1.has.cell, tabV_get _ _ _ (by omega)]
        unfold stF
        rw [if_neg (by omega), Nat.add_sub_cancel_left, C1.nil n (by omega)]
      have cz := C1.has.free (8 + n)
      have HC1 := hide C1
      have HR1 := hide R1
      have HOn := hide On
      have wsz := C1.ho.size
      have clt := C1.has.lt
      have hlen := hl n
      clear C1 R1 On hes h8
      go_upto_region 7 with fail
      generalize hV : Value.slice (some ⟨wr.heap.size, 0, none⟩) (eS S n).length (eS S n).length = V at *
      have o4 : Only (fun k => k = w.heap.size + 1) wr ((wr.setCell ⟨w.heap.size + 1, 8 + n, none⟩ V).alloc (.cells cur 110)) := ((Only.refl (fun k => k = w.heap.size + 1) wr).more (8 + n) V).alloc _
      have K4 : Has ((wr.setCell ⟨w.heap.size + 1, 8 + n, none⟩ V).alloc (.cells cur 110)) (w.heap.size + 1) (tabV 16 (stF S (putE es' n V))) 81 := by
        have := ((unhide HC1).has.setCell (8 + n) V).alloc (.cells cur 110)
        rw [tabV_set] at this
        rw [tabV_congr 16 (g := stF S (putE es' n V)) (fun j hj => by
          unfold stF putE
          by_cases c1 : j = 8 + n
          · rw [if_pos c1, if_neg (by omega), if_pos (by omega)]
          · rw [if_neg c1]
            by_cases c2 : j < 8
            · rw [if_pos c2, if_pos c2]
            · rw [if_neg c2, if_neg c2, if_neg (by omega)])] at this
        exact this
      have Z4 : Has ((wr.setCell ⟨w.heap.size + 1, 8 + n, none⟩ V).alloc (.cells cur 110)) wr.heap.size cur 110 := Has.new' _ _ _ _ (by rw [World.size_setCell])
      have hcne : ∀ k, (Value.slice a (eS S n).length cap).ownBlock = some k → k < w.heap.size := fun k hk => by
        have h := (E.own n hnN).lt k
        have h2 := (E.own n hnN).shape
        obtain ⟨a2, c2, h2⟩ := h2
        have := (unhide HOn).shape
        exact h (by rw [show es n = .slice a (eS S n).length cap from by
          have h5 := A (8 + n) (by omega)
          have h6 := World.cell?_of_block ((unhide HC1).ho.block x xlt (fun h => h)) (a := ⟨x, o + (8 + n), none⟩)
          rw [h5, ← Nat.add_assoc, sx] at h6
          have h7 := Option.some.inj h6
          rw [h7]
          unfold stF
          rw [if_neg (by omega), Nat.add_sub_cancel_left]]; exact hk)
      have O4 := (unhide HOn).keep o4 (fun k hk e => by have := hcne k hk; omega)
      have R4 := hide ((unhide HR1).keep o4 (by omega))
      have zsz : ((wr.setCell ⟨w.heap.size + 1, 8 + n, none⟩ V).alloc (.cells cur 110)).heap.size = wr.heap.size + 1 := by simp
      have sx4 : ((wr.setCell ⟨w.heap.size + 1, 8 + n, none⟩ V).alloc (.cells cur 110)).cell? ⟨x, o + 8 + n, none⟩ = some (.slice a (eS S n).length cap) := by
        rw [World.cell?_of_block (o4.block x (by omega) (by omega))]
        exact sx
      clear sx hmk cc cz
      generalize (wr.setCell ⟨w.heap.size + 1, 8 + n, none⟩ V).alloc (.cells cur 110) = w4 at *
      have kc4 : w4.cell? ⟨w.heap.size + 1, 8 + n, none⟩ = some V := by
        rw [K4.cell, tabV_get _ _ _ (by omega)]
        unfold stF putE
        rw [if_neg (by omega), if_pos (by omega)]
      obtain ⟨w5, hcp, Z5, o5⟩ := zcopy (O4.keep ((Only.refl (fun _ => False) w4).drew) (fun _ _ h => h)) Z4.drew hcur
      have o45 : Only (fun k => k = wr.heap.size) w4 w5 := ((Only.refl (fun k => k = wr.heap.size) w4).drew).trans o5 (fun _ _ h => h)
      have hown := OwnK.made Z5 (by omega)
      have K5 := K4.keep o45 (by omega)
      have R5 := hide ((unhide R4).keep o45 (by omega))
      have hCL : CL w (w.heap.size + 1) S (n + 1) (putE es' n V) w5 := by
        refine (unhide HC1).push hnN (z := wr.heap.size) (by rw [← hV]; rfl) (Nat.le_refl _) (by rw [← hV]; exact hown) K5 ?_ (fun i hi => ?_)
        · exact o4.trans o45 (fun k hk e => by omega)
        · have h1 := (unhide HC1).own i hi
          have h2 := (unhide HC1).cne i hi
          exact (h1.keep o4 (fun k hk e => h2 (by rw [hk, e]))).keep o45 (fun k hk e => by have := h1.lt k hk; omega)
      have HCL := hide hCL
      rw [hV] at hcp
      clear hCL K5 hown Z5 o5 o45 O4 K4 Z4 R4 HC1 HR1 HOn o4
      go_region
      all_goals
        go_wp2_with fail
        go_roundw
        case rel => exact ⟨n + 1, putE es' n V, by go_num, by omega, unhide HCL, unhide R5⟩
        case measure => simp [intOf]; omega
    · have a1 : decide ((n : Int) < 8) = false := decide_eq_false (by omega)
      have a1p : ¬ ((n : Int) < 8) := by omega
      have e8 : n = 8 := by omega
      subst e8
      have HC1 := hide C1
      have HR1 := hide R1
      have one := ZE.one (w := wr) (S := S) (es := es') ⟨fun i hi => C1.own i hi⟩
      clear C1 R1 a1 a1p h8
      go_wp2_with (first | (refine wpList_load_at rfl 81 _ rfl (w.heap.size + 1) 0 16 rfl _ (stF S es') (fun j hj => by rw [Nat.zero_add, (unhide HC1).has.cell, tabV_get _ _ _ hj]) Tryz.underlying81 rfl zs_size ?_) | (refine wpList_store_at rfl 81 _ _ rfl w.heap.size 0 16 (stF S es') rfl rfl 16 _ 81 (unhide HR1) zs_size (by omega) one ?_))
      have hF : tabV 16 (fun j => if 0 ≤ j ∧ j < 0 + 16 then stF S es' (j - 0) else stF (fun x => none) nilE j) = tabV 16 (stF S es') := tabV_congr 16 (fun j hj => by rw [if_pos (by omega)]; rfl)
      rw [hF]
      have N := (unhide HR1).setRowZ (tabV 16 (stF S es'))
      have oN : Only (fun k => k = w.heap.size) wr (wr.setRow w.heap.size (tabV 16 (stF S es'))) := setRow_only
      have C1 := unhide HC1
      have wsz := C1.ho.size
      refine bodyPost_ret (v := stV S es') (res1_zs Tryz.results50 _ (by rfl) N) rfl ⟨es', rfl, ⟨fun i hi => (C1.own i hi).keep oN (fun k hk e => ?_)⟩, C1.fre, C1.ho.trans oN (fun k hk e => by omega)⟩
      have h1 := ownsRow_ne (C1.own i hi) (unhide HR1) (by decide) k hk
      exact h1 e
end
end Go.Proofs.Qxb6500410aGreat
