/-
  OWN WORK. TABLE: a row read back out of its entry.
-/
import Derived.Test.Qxb6500412aGreatERs
import Derived.Test.Qxb6500412aGreatEOpR
import Derived.Deep.RegionWith
import Derived.Deep.RegionHeld3
import Derived.Deep.DeepCutAuto
namespace Go.Proofs.Qxb6500412aGreat
open Go.RowKit Go.PlainAid
set_option linter.unusedSimpArgs false
set_option linter.unusedVariables false

theorem codes_acc : ∀ (l : List Vl) (a b : ByteArray), l.foldl (fun s v => s ++ cV v) (a ++ b) = a ++ l.foldl (fun s v => s ++ cV v) b
  | [], a, b => rfl
  | x :: l, a, b => by rw [List.foldl_cons, List.foldl_cons, ByteArray.append_assoc, codes_acc l]
theorem codes_app (a b : List Vl) : codes (a ++ b) = codes a ++ codes b := by
  have := codes_acc b (codes a) eB
  rw [ba_app_nil] at this
  unfold codes at *
  rw [List.foldl_append]
  exact this
theorem codes_cut {l : List Vl} {j : Nat} {v : Vl} (h : l[j]? = some v) : (codes l).extract (8 * j) (8 * j + 8) = cV v := by
  obtain ⟨hj, rfl⟩ := List.getElem?_eq_some_iff.mp h
  have e : l = l.take j ++ ([l[j]] ++ l.drop (j + 1)) := by
    rw [← List.append_assoc, List.take_append_getElem hj, List.take_append_drop]
  have e2 : codes l = codes (l.take j) ++ (cV l[j] ++ codes (l.drop (j + 1))) := by
    conv => lhs; rw [e]
    rw [codes_app, codes_app]
    congr 2
  have s1 : (codes (l.take j)).size = 8 * j := by rw [codes_size, List.length_take, Nat.min_eq_left (by omega)]
  apply ls_inj
  rw [ls_cut, e2, ls_append, ls_append, List.drop_append_of_le_length (by rw [ls_len]; omega), List.drop_of_length_le (by rw [ls_len]; omega), List.nil_append, show 8 * j + 8 - 8 * j = 8 by omega, List.take_append_of_le_length (by rw [ls_len, cV_size]; omega), List.take_of_length_le (by rw [ls_len, cV_size]; omega)]
/-- Where the code of column i stands in a row's rest. -/
def atP (pk i : Nat) : Nat := if i ≤ pk then 8 * i else 8 * (i - 1)
theorem erase_at {r : List Vl} {pk i : Nat} {v : Vl} (h : r[i]? = some v) (hne : i ≠ pk) : (r.eraseIdx pk)[if i ≤ pk then i else i - 1]? = some v := by
  rw [List.getElem?_eraseIdx]
  by_cases c : i ≤ pk
  · rw [if_pos c, if_pos (by omega)]; exact h
  · rw [if_neg c, if_neg (by omega), show i - 1 + 1 = i by omega]; exact h
theorem rest_cut {r : List Vl} {pk i : Nat} {v : Vl} (h : r[i]? = some v) (hne : i ≠ pk) : (restP r pk).extract (atP pk i) (atP pk i + 8) = cV v := by
  unfold restP atP
  have := codes_cut (erase_at h hne)
  by_cases c : i ≤ pk
  · rw [if_pos c] at this ⊢; exact this
  · rw [if_neg c] at this ⊢; exact this
theorem run_make_vals (w : World) (n : Nat) (hn : n ≤ 1000) : ∃ cur : Array Value, cur.size = n * 3 ∧ (Instr.makeSlice 95 (.int .i64 n) (.int .i64 n)).run Tryz.prog w = .ok (.slice (some ⟨w.heap.size, 0, none⟩) n n) (w.alloc (.cells cur 152)) := by
  obtain ⟨i, hi, hz, hs, hb⟩ := info_parts Tryz.infoEVal
  have := run_make (P := Tryz.prog) w 95 152 i _ Tryz.underlying95 hi hz .i64 .i64 (n : Int) (n : Int) (by omega) (by omega) (by rw [hb]; omega) (by omega)
  refine ⟨_, ?_, this⟩
  simp [madeCells, Value.cells, hs]
/-- The first i values of r are laid in block g. -/
structure RwI (w : World) (r : List Vl) (g i : Nat) (wr : World) : Prop where
  has : ∃ cur : Array Value, cur.size = r.length * 3 ∧ Has wr g cur 152 ∧ ∀ j, j < i * 3 → cur[j]? = (vcs r)[j]?
  on : Only (fun _ => False) w wr
theorem RwI.done {w wr : World} {r : List Vl} {g : Nat} (h : RwI w r g r.length wr) (hl : r.length ≤ 1000) : OwnV wr (.slice (some ⟨g, 0, none⟩) r.length r.length) r := by
  obtain ⟨cur, h1, h2, h3⟩ := h.has
  have hc : cur = (vcs r).toArray := by
    apply Array.ext_getElem?
    intro j
    by_cases c : j < r.length * 3
    · rw [h3 j c]; simp
    · rw [Array.getElem?_eq_none (by omega), List.getElem?_toArray, List.getElem?_eq_none (by rw [vcs_len]; omega)]
  rw [hc] at h2
  refine ⟨vcs_len r, .inr ⟨g, r.length, _, rfl, Nat.zero_le _, h2, Nat.le_refl _, ?_, ?_, ?_⟩⟩
  · unfold maxLen; omega
  · simp [vcs_len]
  · rw [List.toList_toArray, ← vcs_len, List.take_length]
theorem RwI.cells {w wr : World} {r : List Vl} {g i : Nat} (h : RwI w r g i wr) (hi : i < r.length) : ∃ a b c, wr.cell? ⟨g, i * 3, none⟩ = some a ∧ wr.cell? ⟨g, i * 3 + 1, none⟩ = some b ∧ wr.cell? ⟨g, i * 3 + 2, none⟩ = some c ∧ wr.frozen? ⟨g, i * 3, none⟩ = false ∧ wr.frozen? ⟨g, i * 3 + 1, none⟩ = false ∧ wr.frozen? ⟨g, i * 3 + 2, none⟩ = false := by
  obtain ⟨cur, h1, h2, h3⟩ := h.has
  refine ⟨cur[i * 3], cur[i * 3 + 1], cur[i * 3 + 2], ?_, ?_, ?_, h2.free _, h2.free _, h2.free _⟩
  · rw [h2.cell]; exact Array.getElem?_eq_getElem (by omega)
  · rw [h2.cell]; exact Array.getElem?_eq_getElem (by omega)
  · rw [h2.cell]; exact Array.getElem?_eq_getElem (by omega)
theorem RwI.far {w wr w' : World} {r : List Vl} {g i : Nat} (h : RwI w r g i wr) (ho : Only (fun _ => False) wr w') : RwI w r g i w' := by
  obtain ⟨cur, h1, h2, h3⟩ := h.has
  exact ⟨⟨cur, h1, h2.keep ho (fun e => e), h3⟩, h.on.trans ho (fun _ _ e => e)⟩
theorem RwI.step {w wr : World} {r : List Vl} {g i : Nat} {v : Vl} (h : RwI w r g i wr) (hv : r[i]? = some v) (hg : w.heap.size ≤ g) : RwI w r g (i + 1) (((wr.setCell ⟨g, i * 3, none⟩ (.bool v.str)).setCell ⟨g, i * 3 + 1, none⟩ (.int .i64 v.i)).setCell ⟨g, i * 3 + 2, none⟩ (.string v.s)) := by
  obtain ⟨cur, h1, h2, h3⟩ := h.has
  obtain ⟨a1, a2, a3⟩ := vcs_at r i hv
  refine ⟨⟨_, by simp [h1], ((h2.setCell _ _).setCell _ _).setCell _ _, fun j hj => ?_⟩, ?_⟩
  · have hi := (List.getElem?_eq_some_iff.mp hv).1
    simp only [Array.getElem?_setIfInBounds, Array.size_setIfInBounds]
    by_cases c2 : i * 3 + 2 = j
    · rw [if_pos c2, if_pos (by omega), ← c2, a3]
    · rw [if_neg c2]
      by_cases c1 : i * 3 + 1 = j
      · rw [if_pos c1, if_pos (by omega), ← c1, a2]
      · rw [if_neg c1]
        by_cases c0 : i * 3 = j
        · rw [if_pos c0, if_pos (by omega), ← c0, a1]
        · rw [if_neg c0]
          exact h3 j (by omega)
  · exact h.on.fresh (((only1 (p := g) _ _).trans (only1 (p := g) _ _) (fun _ _ h => h)).trans (only1 (p := g) _ _) (fun _ _ h => h)) hg
theorem Only.cellF {w w' : World} {p : Addr} {v : Value} (ho : Only (fun _ => False) w w') (h : w.cell? p = some v) : w'.cell? p = some v := by
  have hb := World.block_lt_of_cell? w p h
  rw [← h]
  unfold World.cell?
  rw [ho.block p.block hb (fun e => e)]
theorem getc_at {w : World} {v : Value} {l : List Cl} (h : OwnC w v l) {i : Nat} {x : Cl} (hx : l[i]? = some x) : ∃ g cap, v = .slice (some ⟨g, 0, none⟩) l.length cap ∧ w.cell? ⟨g, i * 2, none⟩ = some (.string x.1) ∧ w.cell? ⟨g, i * 2 + 1, none⟩ = some (.bool x.2) := by
  obtain ⟨a, cap, rfl⟩ := h.shape
  obtain ⟨g, rfl, h1⟩ := h.at_ hx
  exact ⟨g, cap, rfl, h1⟩
set_option maxRecDepth 100000 in
set_option maxHeartbeats 4000000 in
theorem erowOf_any {w : World} {cv : Value} {c : List Cl} {r : List Vl} (hc : OwnC w cv c) (hr : RowOk c r) (hc3 : c.length ≤ 3) {pk : Nat} (hpk : pk < c.length) (nm : ByteArray) (ix : Int) : Calls Tryz.prog 243 #[schA nm cv (pk : Int) ix, .string (pkK pk r), .string (restP r pk)] w fun e w' => ∃ v, e = .returned (.tuple #[v, .bool true]) ∧ OwnV w' v r ∧ Newer w v ∧ Only (fun _ => False) w w' := by
  have hl := hr.len
  obtain ⟨a, cap, rfl⟩ := hc.shape
  have rs : (restP r pk).size = 8 * (r.length - 1) := restP_size (by omega)
  have rsI : ((restP r pk).size : Int) = 8 * ((c.length : Int) - 1) := by omega
  obtain ⟨cur0, hcs, hmk⟩ := run_make_vals (w.alloc (.cells #[.string nm, .slice a c.length cap, .int .i64 (pk : Int), .int .i64 ix] 79)) c.length (by omega)
  have HC := hide hc
  have HR := hide hr
  have HCUT := hide (fun (i : Nat) (v : Vl) (h : r[i]? = some v) (hne : i ≠ pk) => rest_cut h hne)
  have HPK := hide (fun (v : Vl) (h : r[pk]? = some v) => show pkK pk r = cV v from by unfold pkK kyR; rw [h]; rfl)
  have hcn : (c.length : Int) ≤ 3 := by omega
  have hcn1 : (1 : Int) ≤ (c.length : Int) := by omega
  have p1 : decide ((pk : Int) < 0) = false := decide_eq_false (by omega)
  have p2 : decide ((pk : Int) ≥ (c.length : Int)) = false := decide_eq_false (by omega)
  have p2' : decide ((c.length : Int) ≤ (pk : Int)) = false := decide_eq_false (by omega)
  have p2n : decide (c.length ≤ pk) = false := decide_eq_false (by omega)
  have p3 : ((8 * ((c.length : Int) - 1)) != 8 * ((c.length : Int) - 1)) = false := by simp
  generalize hV : restP r pk = V at *
  generalize hK : pkK pk r = K at *
  have N0 : RwI w r (w.heap.size + 1) 0 ((w.alloc (.cells #[.string nm, .slice a c.length cap, .int .i64 (pk : Int), .int .i64 ix] 79)).alloc (.cells cur0 152)) :=
    ⟨⟨cur0, by rw [hcs, hl], Has.new' _ _ _ _ (by simp), fun j hj => by omega⟩, ((Only.refl _ w).alloc _).alloc _⟩
  have M0 : Has ((w.alloc (.cells #[.string nm, .slice a c.length cap, .int .i64 (pk : Int), .int .i64 ix] 79)).alloc (.cells cur0 152)) w.heap.size #[.string nm, .slice a c.length cap, .int .i64 (pk : Int), .int .i64 ix] 79 := (Has.new w _ _).alloc _
  have HRS := hide rs
  clear rs
  go_enter Tryz.func243, Tryz.ntmps243
  go_upto_region 7 with fail
  have hgw : w.heap.size ≤ w.heap.size + 1 := by omega
  generalize hg : w.heap.size + 1 = g at *
  have hgne : w.heap.size ≠ g := by omega
  generalize (w.alloc (.cells #[.string nm, .slice a c.length cap, .int .i64 (pk : Int), .int .i64 ix] 79)).alloc (.cells cur0 152) = w1 at *
  have HS := hide (And.intro N0 M0)
  clear hg hmk hcs N0 M0 hV hK rsI p1 p2 p2' p2n p3 hc hr hcn1
  go_loopw [10, 11] (fun av iv wr => ∃ i : Nat, iv = .int .i64 i ∧ i ≤ c.length ∧ av = .int .i64 (atP pk i : Int) ∧ RwI w r g i wr ∧ Has wr w.heap.size #[.string nm, .slice a c.length cap, .int .i64 (pk : Int), .int .i64 ix] 79) (fun _ iv _ => c.length - (intOf iv).toNat)
  case atStart => exact ⟨0, rfl, Nat.zero_le _, by simp [atP], (unhide HS).1, (unhide HS).2⟩
  case round =>
    clear HS
    obtain ⟨i, rfl, hi, rfl, I, M⟩ := hrel
    by_cases hi2 : i < c.length
    · have a1 : decide ((i : Int) < (c.length : Int)) = true := decide_eq_true (by omega)
      have a1p : (i : Int) < (c.length : Int) := by omega
      obtain ⟨v, hv⟩ := getE (l := r) (i := i) (by omega)
      obtain ⟨cc, hcc⟩ := getE hi2
      have hvs : v.str = cc.2 := by
        have := congrArg (fun l => l[i]?) (unhide HR).1
        simp only [List.getElem?_map, hv, hcc, Option.map_some] at this
        exact Option.some.inj this
      have hfit : v.fit := (unhide HR).2 v (List.mem_of_getElem? hv)
      obtain ⟨gc, cap2, hce, e0, e1⟩ := getc_at ((unhide HC).keep I.on (fun _ _ e => e)) hcc
      simp only [Value.slice.injEq] at hce
      obtain ⟨rfl, _, rfl⟩ := hce
      rw [← hvs] at e1
      have m1 := M.cell 1
      have m2 := M.cell 2
      simp at m1 m2
      have CV := fun w => evalOf_any v hfit w
      unfold vlA at CV
      have CV := hide CV
      have HIM := hide (And.intro I M)
      have hrI : (i : Int) < (r.length : Int) := by omega
      have i3 : (i : Int) ≤ 3 := by omega
      clear I M hcc hvs hfit
      by_cases hip : i = pk
      · have hKv := unhide HPK v (by rw [← hip]; exact hv)
        have hat : atP pk (i + 1) = atP pk i := by unfold atP; rw [if_neg (by omega), if_pos (by omega)]; omega
        have HAT := hide hat
        clear hat
        have b1 : ((i : Int) == (pk : Int)) = true := by rw [hip]; simp
        have CV2 := unhide CV wr
        rw [← hKv] at CV2
        have CV2 := hide CV2
        clear HCUT HPK CV hip hKv
        go_wp2_with fail
        refine (unhide CV2).mono ?_
        rintro e w2 ⟨rfl, o2⟩
        have I2 := (unhide HIM).1.far o2
        have M2 := (unhide HIM).2.keep o2 (fun e => e)
        obtain ⟨z0, z1, z2, d0, d1, d2, f0, f1, f2⟩ := I2.cells (by omega)
        have HN := hide (I2.step hv hgw)
        have HM := hide (M2.keep (((only1 (w := w2) (p := g) (i * 3) (.bool v.str)).trans (only1 (p := g) (i * 3 + 1) (.int .i64 v.i)) (fun _ _ h => h)).trans (only1 (p := g) (i * 3 + 2) (.string v.s)) (fun _ _ h => h)) hgne)
        clear I2 M2 CV2 o2 HIM hv
        go_wp2_with fail
        go_roundw
        case rel => exact ⟨i + 1, by go_num, by omega, by rw [unhide HAT], unhide HN, unhide HM⟩
        case measure => simp [intOf]; omega
      · have b1 : ((i : Int) == (pk : Int)) = false := by simp; omega
        have hcut := unhide HCUT i v hv hip
        have hat : atP pk (i + 1) = atP pk i + 8 := by
          unfold atP
          by_cases c : i ≤ pk
          · rw [if_pos c, if_pos (by omega)]; omega
          · rw [if_neg c, if_neg (by omega)]; omega
        have hA : atP pk i + 8 ≤ V.size := by
          rw [unhide HRS, hl]
          unfold atP
          by_cases c : i ≤ pk
          · rw [if_pos c]; omega
          · rw [if_neg c]; omega
        have HAT := hide hat
        clear hat
        generalize atP pk i = A at *
        have hAI : (A : Int) + 8 ≤ (V.size : Int) := by omega
        have hV3 : (V.size : Int) ≤ 16 := by have := unhide HRS; omega
        have CV2 := hide (unhide CV wr.drew)
        have wA : IntKind.i64.wrap ((A : Int) + 8) = (A : Int) + 8 := by rw [IntKind.wrap_i64]; omega
        have wA2 : wrap64 ((A : Int) + 8) = (A : Int) + 8 := by unfold wrap64; omega
        have hcut2 : V.extract A ((A : Int) + 8).toNat = cV v := by rw [show ((A : Int) + 8).toNat = A + 8 by omega]; exact hcut
        clear HCUT HPK CV hA
        go_upto_region 12 with fail
        go_cut [12] (fun okv wx => okv = .bool true ∧ RwI w r g (i + 1) wx ∧ Has wx w.heap.size #[.string nm, .slice (some ⟨gc, 0, none⟩) c.length cap, .int .i64 (pk : Int), .int .i64 ix] 79)
        case first =>
          go_region_with (go_at_call 309; refine (unhide CV2).mono ?_; rintro e w2 ⟨rfl, o2⟩; have I2 := ((unhide HIM).1.far ((Only.refl _ wr).drew)).far o2; have M2 := ((unhide HIM).2.drew).keep o2 (fun e => e); obtain ⟨z0, z1, z2, d0, d1, d2, f0, f1, f2⟩ := I2.cells (by omega); have HN := hide (I2.step hv hgw); have HM := hide (M2.keep (((only1 (w := w2) (p := g) (i * 3) (.bool v.str)).trans (only1 (p := g) (i * 3 + 1) (.int .i64 v.i)) (fun _ _ h => h)).trans (only1 (p := g) (i * 3 + 2) (.string v.s)) (fun _ _ h => h)) hgne); clear I2 M2 o2)
          all_goals
            go_wp2_with fail
            go_meet
            exact ⟨rfl, unhide HN, unhide HM⟩
        case rest =>
        obtain ⟨rfl, hN, hM⟩ := hcut
        have HN := hide (And.intro hN hM)
        clear hN hM HIM CV2
        go_wp2_with fail
        go_roundw
        case rel => exact ⟨i + 1, by go_num, by omega, by rw [unhide HAT]; go_num, (unhide HN).1, (unhide HN).2⟩
        case measure => simp [intOf]; omega
    · obtain rfl : i = c.length := by omega
      have a1 : decide ((c.length : Int) < (c.length : Int)) = false := by simp
      have HD := hide (show OwnV wr (.slice (some ⟨g, 0, none⟩) c.length c.length) r from by
        have := RwI.done (hl ▸ I) (by omega)
        rw [hl] at this
        exact this)
      have HO := hide I.on
      clear I M
      go_wp2_with fail
      go_ret2
      exact ⟨_, rfl, unhide HD, fun k hk => by simp [Value.ownBlock] at hk; omega, unhide HO⟩
end Go.Proofs.Qxb6500412aGreat
