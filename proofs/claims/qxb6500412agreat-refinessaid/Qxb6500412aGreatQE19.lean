/-
  OWN WORK. QUERY's MODEL: Read (written by tools/gen_qe19.py).
-/
import Derived.Test.Qxb6500412aGreatQE18
namespace Go.Proofs.Qxb6500412aGreat
open Go.RowKit Go.PlainAid
set_option linter.unusedSimpArgs false
set_option linter.unusedVariables false

theorem Tryz.infoSMCmp : (Tryz.prog.info? 259).map (fun i => (i.zero, i.size, i.bytes)) = some (some (.agg #[.string ⟨#[]⟩, .string ⟨#[]⟩, .bool false, .int .i64 0, .string ⟨#[]⟩]), 5, 64) := by kernel_rfl
/-- Comparisons as Read hands them out. -/
def OwnSc (w : World) (v : Value) (l : List Cm) : Prop := w.ownsRow 0 259 5 v l.length (smcs l)
section
variable {w w' : World} {v : Value} {l : List Cm}
theorem OwnSc.keep {B : Nat → Prop} (h : OwnSc w v l) (ho : Only B w w') (hB : ∀ k, v.ownBlock = some k → ¬ B k) : OwnSc w' v l := ownsRow_keep h ho hB
theorem OwnSc.quiet (h : OwnSc w v l) (ho : Only (fun _ => False) w w') : OwnSc w' v l := h.keep ho (fun _ _ e => e)
theorem OwnSc.shape (h : OwnSc w v l) : ∃ a cap, v = .slice a l.length cap := ownsRow_shape h
theorem OwnSc.at_ {a : Option Addr} {n cap : Nat} (h : OwnSc w (.slice a n cap) l) {i : Nat} {c : Cm} (hx : l[i]? = some c) : ∃ g, a = some ⟨g, 0, none⟩ ∧ w.cell? ⟨g, i * 5, none⟩ = some (.string c.col) ∧ w.cell? ⟨g, i * 5 + 1, none⟩ = some (.string (opT c.op)) ∧ w.cell? ⟨g, i * 5 + 2, none⟩ = some (.bool c.lit.str) ∧ w.cell? ⟨g, i * 5 + 3, none⟩ = some (.int .i64 c.lit.i) ∧ w.cell? ⟨g, i * 5 + 4, none⟩ = some (.string c.lit.s) := by
  have hi := (List.getElem?_eq_some_iff.1 hx).1
  rcases h.2 with ⟨he, h0⟩ | ⟨g, cap', cur, he, _⟩
  · omega
  · obtain ⟨rfl, _⟩ : a = some ⟨g, 0, none⟩ ∧ True := by
      have := he
      simp at this
      exact ⟨this.1, trivial⟩
    refine ⟨g, rfl, ?_⟩
    have hc := World.ownsRow.cells h (g := g) (by first | exact rfl | simp [Value.ownBlock])
    have a0 : (smcs l)[i * 5]? = some (.string c.col) := by have := smcs_get l i c hx 0 (by omega); simpa [smC] using this
    have a1 : (smcs l)[i * 5 + 1]? = some (.string (opT c.op)) := by have := smcs_get l i c hx 1 (by omega); simpa [smC] using this
    have a2 : (smcs l)[i * 5 + 2]? = some (.bool c.lit.str) := by have := smcs_get l i c hx 2 (by omega); simpa [smC] using this
    have a3 : (smcs l)[i * 5 + 3]? = some (.int .i64 c.lit.i) := by have := smcs_get l i c hx 3 (by omega); simpa [smC] using this
    have a4 : (smcs l)[i * 5 + 4]? = some (.string c.lit.s) := by have := smcs_get l i c hx 4 (by omega); simpa [smC] using this
    have b0 := hc _ _ a0
    have b1 := hc _ _ a1
    have b2 := hc _ _ a2
    have b3 := hc _ _ a3
    have b4 := hc _ _ a4
    rw [addr_add] at b0 b1 b2 b3 b4
    exact ⟨b0, b1, b2, b3, b4⟩
end
/-- What Read answers. -/
noncomputable def rdK (t : ByteArray) : Int := if parB t = true then (parQ t).2.kind else 0
noncomputable def rdT (t : ByteArray) : ByteArray := if parB t = true then (parQ t).2.table else ⟨#[]⟩
noncomputable def rdW (t : ByteArray) : List Cm := if parB t = true then (parQ t).2.wh else []
def RdP (t : ByteArray) (w : World) (e : Ending) (w' : World) : Prop := ∃ v, e = .returned (.tuple #[.int .i64 (rdK t), .string (rdT t), v]) ∧ OwnSc w' v (rdW t) ∧ Newer w v ∧ Only (fun _ => False) w w'
set_option maxRecDepth 100000 in
set_option maxHeartbeats 8000000 in
theorem smread_bad (t : ByteArray) (w : World) (hp : parB t = false) : Calls Tryz.prog 124 #[.string t] w (RdP t w) := by
  have CP := hide (smparse_any t w)
  have hn : ¬ parB t = true := by rw [hp]; decide
  have HF := hide (show rdK t = 0 ∧ rdT t = ⟨#[]⟩ ∧ rdW t = [] from ⟨if_neg hn, if_neg hn, if_neg hn⟩)
  have Hp := hide hp
  clear hn hp
  go_enter Tryz.func124, Tryz.ntmps124
  go_wp2_with fail
  refine (unhide CP).mono ?_
  rintro e w2 ⟨S, rfl, _, hone, o2⟩
  rw [unhide Hp]
  have HA := hide o2
  clear CP o2
  rw [show tabV 12 S.cell = #[S.cell 0, S.cell 1, S.cell 2, S.cell 3, S.cell 4, S.cell 5, S.cell 6, S.cell 7, S.cell 8, S.cell 9, S.cell 10, S.cell 11] from rfl]
  have q0 := hone 0
  have q1 := hone 1
  have q2 := hone 2
  have q3 := hone 3
  have q4 := hone 4
  have q5 := hone 5
  have q6 := hone 6
  have q7 := hone 7
  have q8 := hone 8
  have q9 := hone 9
  have q10 := hone 10
  have q11 := hone 11
  generalize S.cell 0 = v0 at *
  generalize S.cell 1 = v1 at *
  generalize S.cell 2 = v2 at *
  generalize S.cell 3 = v3 at *
  generalize S.cell 4 = v4 at *
  generalize S.cell 5 = v5 at *
  generalize S.cell 6 = v6 at *
  generalize S.cell 7 = v7 at *
  generalize S.cell 8 = v8 at *
  generalize S.cell 9 = v9 at *
  generalize S.cell 10 = v10 at *
  generalize S.cell 11 = v11 at *
  clear hone
  have hs0 : ∀ (w : World) (a : Addr) m, (store a v0 m).run Tryz.prog w = stored Tryz.prog w a v0 m := fun w a m => run_store Tryz.prog w a _ m q0
  have hs1 : ∀ (w : World) (a : Addr) m, (store a v1 m).run Tryz.prog w = stored Tryz.prog w a v1 m := fun w a m => run_store Tryz.prog w a _ m q1
  have hs2 : ∀ (w : World) (a : Addr) m, (store a v2 m).run Tryz.prog w = stored Tryz.prog w a v2 m := fun w a m => run_store Tryz.prog w a _ m q2
  have hs3 : ∀ (w : World) (a : Addr) m, (store a v3 m).run Tryz.prog w = stored Tryz.prog w a v3 m := fun w a m => run_store Tryz.prog w a _ m q3
  have hs4 : ∀ (w : World) (a : Addr) m, (store a v4 m).run Tryz.prog w = stored Tryz.prog w a v4 m := fun w a m => run_store Tryz.prog w a _ m q4
  have hs5 : ∀ (w : World) (a : Addr) m, (store a v5 m).run Tryz.prog w = stored Tryz.prog w a v5 m := fun w a m => run_store Tryz.prog w a _ m q5
  have hs6 : ∀ (w : World) (a : Addr) m, (store a v6 m).run Tryz.prog w = stored Tryz.prog w a v6 m := fun w a m => run_store Tryz.prog w a _ m q6
  have hs7 : ∀ (w : World) (a : Addr) m, (store a v7 m).run Tryz.prog w = stored Tryz.prog w a v7 m := fun w a m => run_store Tryz.prog w a _ m q7
  have hs8 : ∀ (w : World) (a : Addr) m, (store a v8 m).run Tryz.prog w = stored Tryz.prog w a v8 m := fun w a m => run_store Tryz.prog w a _ m q8
  have hs9 : ∀ (w : World) (a : Addr) m, (store a v9 m).run Tryz.prog w = stored Tryz.prog w a v9 m := fun w a m => run_store Tryz.prog w a _ m q9
  have hs10 : ∀ (w : World) (a : Addr) m, (store a v10 m).run Tryz.prog w = stored Tryz.prog w a v10 m := fun w a m => run_store Tryz.prog w a _ m q10
  have hs11 : ∀ (w : World) (a : Addr) m, (store a v11 m).run Tryz.prog w = stored Tryz.prog w a v11 m := fun w a m => run_store Tryz.prog w a _ m q11
  have oP : Only (fun _ => False) w2 (w2.alloc (.cells #[v0, v1, v2, v3, v4, v5, v6, v7, v8, v9, v10, v11] 253)) := (Only.refl _ _).alloc _
  have FF := hide (show RdP t w (.returned (.tuple #[.int .i64 0, .string ⟨#[]⟩, .slice none 0 0])) (w2.alloc (.cells #[v0, v1, v2, v3, v4, v5, v6, v7, v8, v9, v10, v11] 253)) from ⟨.slice none 0 0, by rw [(unhide HF).1, (unhide HF).2.1], by rw [(unhide HF).2.2]; exact World.ownsRow_nil _ _ _ _, (fun k hk => by cases hk), (unhide HA).trans oP (fun _ _ e => e)⟩)
  clear oP HA
  go_wp2_with fail
  go_ret3
  exact unhide FF
set_option maxRecDepth 100000 in
set_option maxHeartbeats 16000000 in
theorem smread_good (t : ByteArray) (w : World) (hp : parB t = true) : Calls Tryz.prog 124 #[.string t] w (RdP t w) := by
  obtain ⟨k0, hk0, hx0, hx1, hx2⟩ := info_parts Tryz.infoSMCmp
  have CP := hide (smparse_any t w)
  obtain ⟨st, hst⟩ : ∃ st, (parQ t).2 = st := ⟨_, rfl⟩
  have HF := hide (show rdK t = st.kind ∧ rdT t = st.table ∧ rdW t = st.wh from ⟨(if_pos hp).trans (by rw [hst]), (if_pos hp).trans (by rw [hst]), (if_pos hp).trans (by rw [hst])⟩)
  have hsz : t.size ≤ 256 := by
    by_cases h : t.size ≤ 256
    · exact h
    · have : parB t = false := by unfold parB; simp [h]
      rw [this] at hp; cases hp
  have hwl : st.wh.length ≤ 200 := by rw [← hst]; exact (parQ_b hsz).wh
  have Hp := hide hp
  have Hst := hide hst
  clear hst hp hsz
  go_enter Tryz.func124, Tryz.ntmps124
  go_wp2_with fail
  refine (unhide CP).mono ?_
  rintro e w2 ⟨S, rfl, hpp, _, o2⟩
  obtain ⟨hL, hO⟩ := hpp (unhide Hp)
  rw [unhide Hst] at hO
  rw [unhide Hp]
  have own7 := hL.own 7 (by unfold smj; omega)
  rw [hO.x7.1, hO.x7.2] at own7
  have new7 := hL.new 7 (by unfold smj; omega)
  obtain ⟨a2, n2, c2, a4, n4, c4, a5, n5, c5, a7, n7, c7, hcs⟩ := hO.cells_ hL
  have hcs : tabV 12 S.cell = #[.int .i64 st.kind, .string st.table, .slice a2 n2 c2, .int .i64 st.pk, .slice a4 n4 c4, .slice a5 n5 c5, .bool st.star, .slice a7 n7 c7, .string st.order, .bool st.desc, .bool st.hasL, .int .i64 st.lim] := hcs
  have h7 : S.cell 7 = .slice a7 n7 c7 := by
    have := congrArg (fun a : Array Value => a[7]?) hcs
    simpa [tabV] using this
  rw [h7] at own7 new7
  obtain ⟨b7, d7, hsh⟩ := ownsRow_shape own7
  have hn7 : n7 = st.wh.length := by cases hsh; rfl
  clear hsh
  subst hn7
  rw [hcs]
  have oP : Only (fun _ => False) w2 (w2.alloc (.cells #[.int .i64 st.kind, .string st.table, .slice a2 n2 c2, .int .i64 st.pk, .slice a4 n4 c4, .slice a5 n5 c5, .bool st.star, .slice a7 st.wh.length c7, .string st.order, .bool st.desc, .bool st.hasL, .int .i64 st.lim] 253)) := (Only.refl _ _).alloc _
  have NP := Has.new w2 #[.int .i64 st.kind, .string st.table, .slice a2 n2 c2, .int .i64 st.pk, .slice a4 n4 c4, .slice a5 n5 c5, .bool st.star, .slice a7 st.wh.length c7, .string st.order, .bool st.desc, .bool st.hasL, .int .i64 st.lim] 253
  have HX := hide (show Has (w2.alloc (.cells #[.int .i64 st.kind, .string st.table, .slice a2 n2 c2, .int .i64 st.pk, .slice a4 n4 c4, .slice a5 n5 c5, .bool st.star, .slice a7 st.wh.length c7, .string st.order, .bool st.desc, .bool st.hasL, .int .i64 st.lim] 253)) w2.heap.size #[.int .i64 st.kind, .string st.table, .slice a2 n2 c2, .int .i64 st.pk, .slice a4 n4 c4, .slice a5 n5 c5, .bool st.star, .slice a7 st.wh.length c7, .string st.order, .bool st.desc, .bool st.hasL, .int .i64 st.lim] 253 ∧ OwnSm (w2.alloc (.cells #[.int .i64 st.kind, .string st.table, .slice a2 n2 c2, .int .i64 st.pk, .slice a4 n4 c4, .slice a5 n5 c5, .bool st.star, .slice a7 st.wh.length c7, .string st.order, .bool st.desc, .bool st.hasL, .int .i64 st.lim] 253)) (.slice a7 st.wh.length c7) st.wh ∧ Only (fun _ => False) w (w2.alloc (.cells #[.int .i64 st.kind, .string st.table, .slice a2 n2 c2, .int .i64 st.pk, .slice a4 n4 c4, .slice a5 n5 c5, .bool st.star, .slice a7 st.wh.length c7, .string st.order, .bool st.desc, .bool st.hasL, .int .i64 st.lim] 253)) from ⟨NP, ownsRow_keep own7 oP (fun _ _ e => e), o2.trans oP (fun _ _ e => e)⟩)
  clear hL hO hcs h7 own7 new7 oP NP o2 CP hpp
  go_upto_region 6 with fail
  generalize w2.alloc (.cells #[.int .i64 st.kind, .string st.table, .slice a2 n2 c2, .int .i64 st.pk, .slice a4 n4 c4, .slice a5 n5 c5, .bool st.star, .slice a7 st.wh.length c7, .string st.order, .bool st.desc, .bool st.hasL, .int .i64 st.lim] 253) = w3 at *
  generalize w2.heap.size = P at *
  obtain ⟨n, hn⟩ : ∃ n, st.wh.length = n := ⟨_, rfl⟩
  rw [hn] at HX hwl
  have HN := hide hn
  go_loopw [7, 8] (fun ov iv wr => ∃ i : Nat, iv = .int .i64 i ∧ i ≤ n ∧ GR 259 5 w3 ov i (smcs (st.wh.take i)) wr) (fun _ iv _ => n - (intOf iv).toNat)
  case atStart => exact ⟨0, rfl, Nat.zero_le _, GR.nil _ _ _⟩
  case round =>
    obtain ⟨i, rfl, hi, hg⟩ := hrel
    have PP := (unhide HX).1.keep hg.ho (fun e => e)
    have t0 : wr.cell? ⟨P, 0, none⟩ = some (.int .i64 st.kind) := PP.cell 0
    have t1 : wr.cell? ⟨P, 1, none⟩ = some (.string st.table) := PP.cell 1
    have t7 : wr.cell? ⟨P, 7, none⟩ = some (.slice a7 n c7) := PP.cell 7
    have tl := PP.lt
    by_cases hs : i < n
    · have b1 : decide ((i : Int) < (n : Int)) = true := decide_eq_true (by omega)
      have b1p : (i : Int) < (n : Int) := by omega
      obtain ⟨c, hc⟩ := getE (l := st.wh) (i := i) (by rw [unhide HN]; exact hs)
      obtain ⟨ga, rfl, d0, d1, d2, d3, d4⟩ := ((unhide HX).2.1.quiet hg.ho).at_ hc
      have gal : ga < wr.heap.size := ownsRow_lt ((unhide HX).2.1.quiet hg.ho) ga rfl
      have galw : ga < w3.heap.size := ownsRow_lt (unhide HX).2.1 ga rfl
      have Pw : P < w3.heap.size := (unhide HX).1.lt
      obtain ⟨va, vc, hov⟩ := ownsRow_shape hg.own
      subst hov
      have own1 := hg.own
      have hgb := hg.hb
      have hltq : ∀ b, b < w3.heap.size → ∀ {W : World} {o : Nat} {v : Value}, Only (fun k => (Value.slice va i vc).ownBlock = some k) wr W → wr.cell? ⟨b, o, none⟩ = some v → W.cell? ⟨b, o, none⟩ = some v := fun b hb W o v ho h => cell_keep h ho (fun e => by have := hgb b e; omega)
      have HSB := hide (show ∀ W, Only (fun k => (Value.slice va i vc).ownBlock = some k) wr W → (W.cell? ⟨P, 7, none⟩ = some (.slice (some ⟨ga, 0, none⟩) n c7) ∧ W.cell? ⟨ga, i * 5, none⟩ = some (.string c.col) ∧ W.cell? ⟨ga, i * 5 + 1, none⟩ = some (.string (opT c.op)) ∧ W.cell? ⟨ga, i * 5 + 2, none⟩ = some (.bool c.lit.str) ∧ W.cell? ⟨ga, i * 5 + 3, none⟩ = some (.int .i64 c.lit.i) ∧ W.cell? ⟨ga, i * 5 + 4, none⟩ = some (.string c.lit.s)) from fun W o => ⟨hltq P Pw o t7, hltq ga galw o d0, hltq ga galw o d1, hltq ga galw o d2, hltq ga galw o d3, hltq ga galw o d4⟩)
      have hsb0 := unhide HSB wr (Only.refl _ _)
      have oE : Only (fun _ => False) wr wr.drew := (Only.refl _ wr).drew
      have HGp := hide (fun (v' : Value) (w9 : World) (ob : Obj) h1 h2 h3 => GR.push (v' := v') (w' := w9) (o := ob) (es := [.string c.col, .string (opT c.op), .bool c.lit.str, .int .i64 c.lit.i, .string c.lit.s]) (n := i + 1) (hg.far oE) h1 h2 h3)
      have HYY := hide hc
      have HOW := hide (own1.drew)
      clear hltq hc hg hgb own1 PP t0 t1 t7 d0 d1 d2 d3 d4 galw Pw
      go_upto_region 8 with fail
      refine wp_region_held_drew (S := (fun w' => w'.cell? ⟨P, 7, none⟩ = some (.slice (some ⟨ga, 0, none⟩) n c7) ∧ w'.cell? ⟨ga, i * 5, none⟩ = some (.string c.col) ∧ w'.cell? ⟨ga, i * 5 + 1, none⟩ = some (.string (opT c.op)) ∧ w'.cell? ⟨ga, i * 5 + 2, none⟩ = some (.bool c.lit.str) ∧ w'.cell? ⟨ga, i * 5 + 3, none⟩ = some (.int .i64 c.lit.i) ∧ w'.cell? ⟨ga, i * 5 + 4, none⟩ = some (.string c.lit.s))) (by kernel_rfl) hsb0 (fun hH0 => ?_)
      refine takeH 0 23 (v := ?vrd1) rfl rfl (by kernel_rfl) (by kernel_rfl) (by kernel_rfl) (fun _ _ _ h => h) (Or.inl ⟨by rfl, ?hrd1⟩) hH0 ?rrd1
      case hrd1 => (intro w hSw; clear hSw; go_simp; (try with_reducible rfl))
      case rrd1 =>
      try simp only [Act.put, List.setIfInBounds_toArray, List.set_cons_zero, List.set_cons_succ]
      refine takeH 1 24 (v := ?vrd2) rfl rfl (by kernel_rfl) (by kernel_rfl) (by kernel_rfl) (fun _ _ _ h => h) (Or.inl ⟨by rfl, ?hrd2⟩) hH0 ?rrd2
      case hrd2 => (intro w hSw; clear hSw; go_simp; (try with_reducible rfl))
      case rrd2 =>
      try simp only [Act.put, List.setIfInBounds_toArray, List.set_cons_zero, List.set_cons_succ]
      refine takeH 2 25 (v := ?vrd3) rfl rfl (by kernel_rfl) (by kernel_rfl) (by kernel_rfl) (fun _ _ _ h => h) (Or.inl ⟨by rfl, ?hrd3⟩) hH0 ?rrd3
      case hrd3 => (intro w hSw; obtain ⟨s0, s1, s2, s3, s4, s5⟩ := hSw; go_simp; (try with_reducible rfl))
      case rrd3 =>
      try simp only [Act.put, List.setIfInBounds_toArray, List.set_cons_zero, List.set_cons_succ]
      refine takeH 3 26 (v := ?vrd4) rfl rfl (by kernel_rfl) (by kernel_rfl) (by kernel_rfl) (fun _ _ _ h => h) (Or.inl ⟨by rfl, ?hrd4⟩) hH0 ?rrd4
      case hrd4 => (intro w hSw; clear hSw; go_simp; (try with_reducible rfl))
      case rrd4 =>
      try simp only [Act.put, List.setIfInBounds_toArray, List.set_cons_zero, List.set_cons_succ]
      refine takeH 4 27 (v := ?vrd5) rfl rfl (by kernel_rfl) (by kernel_rfl) (by kernel_rfl) (fun _ _ _ h => h) (Or.inl ⟨by rfl, ?hrd5⟩) hH0 ?rrd5
      case hrd5 => (intro w hSw; clear hSw; go_simp; (try with_reducible rfl))
      case rrd5 =>
      try simp only [Act.put, List.setIfInBounds_toArray, List.set_cons_zero, List.set_cons_succ]
      refine takeH 5 28 (v := ?vrd6) rfl rfl (by kernel_rfl) (by kernel_rfl) (by kernel_rfl) (fun _ _ _ h => h) (Or.inl ⟨by rfl, ?hrd6⟩) hH0 ?rrd6
      case hrd6 => (intro w hSw; clear hSw; go_simp; (try with_reducible rfl))
      case rrd6 =>
      try simp only [Act.put, List.setIfInBounds_toArray, List.set_cons_zero, List.set_cons_succ]
      refine takeH 6 29 (v := ?vrd7) rfl rfl (by kernel_rfl) (by kernel_rfl) (by kernel_rfl) (fun _ _ _ h => h) (Or.inl ⟨by rfl, ?hrd7⟩) hH0 ?rrd7
      case hrd7 => (intro w hSw; obtain ⟨s0, s1, s2, s3, s4, s5⟩ := hSw; go_simp; (try with_reducible rfl))
      case rrd7 =>
      try simp only [Act.put, List.setIfInBounds_toArray, List.set_cons_zero, List.set_cons_succ]
      refine takeH 7 30 (v := ?vrd8) rfl rfl (by kernel_rfl) (by kernel_rfl) (by kernel_rfl) (fun _ _ _ h => h) (Or.inl ⟨by rfl, ?hrd8⟩) hH0 ?rrd8
      case hrd8 => (intro w hSw; clear hSw; go_simp; (try with_reducible rfl))
      case rrd8 =>
      try simp only [Act.put, List.setIfInBounds_toArray, List.set_cons_zero, List.set_cons_succ]
      refine takeH 8 31 (v := ?vrd9) rfl rfl (by kernel_rfl) (by kernel_rfl) (by kernel_rfl) (fun _ _ _ h => h) (Or.inl ⟨by rfl, ?hrd9⟩) hH0 ?rrd9
      case hrd9 => (intro w hSw; obtain ⟨s0, s1, s2, s3, s4, s5⟩ := hSw; go_simp; (try with_reducible rfl))
      case rrd9 =>
      try simp only [Act.put, List.setIfInBounds_toArray, List.set_cons_zero, List.set_cons_succ]
      refine takeH 9 32 (v := ?vrd10) rfl rfl (by kernel_rfl) (by kernel_rfl) (by kernel_rfl) (fun _ _ _ h => h) (Or.inl ⟨by rfl, ?hrd10⟩) hH0 ?rrd10
      case hrd10 => (intro w hSw; clear hSw; go_simp; (try with_reducible rfl))
      case rrd10 =>
      try simp only [Act.put, List.setIfInBounds_toArray, List.set_cons_zero, List.set_cons_succ]
      refine takeH 10 33 (v := ?vrd11) rfl rfl (by kernel_rfl) (by kernel_rfl) (by kernel_rfl) (fun _ _ _ h => h) (Or.inl ⟨by rfl, ?hrd11⟩) hH0 ?rrd11
      case hrd11 => (intro w hSw; clear hSw; go_simp; (try with_reducible rfl))
      case rrd11 =>
      try simp only [Act.put, List.setIfInBounds_toArray, List.set_cons_zero, List.set_cons_succ]
      refine takeH 11 34 (v := ?vrd12) rfl rfl (by kernel_rfl) (by kernel_rfl) (by kernel_rfl) (fun _ _ _ h => h) (Or.inl ⟨by rfl, ?hrd12⟩) hH0 ?rrd12
      case hrd12 => (intro w hSw; clear hSw; go_simp; (try with_reducible rfl))
      case rrd12 =>
      try simp only [Act.put, List.setIfInBounds_toArray, List.set_cons_zero, List.set_cons_succ]
      refine takeH 12 35 (v := ?vrd13) rfl rfl (by kernel_rfl) (by kernel_rfl) (by kernel_rfl) (fun _ _ _ h => h) (Or.inl ⟨by rfl, ?hrd13⟩) hH0 ?rrd13
      case hrd13 => (intro w hSw; obtain ⟨s0, s1, s2, s3, s4, s5⟩ := hSw; go_simp; (try with_reducible rfl))
      case rrd13 =>
      try simp only [Act.put, List.setIfInBounds_toArray, List.set_cons_zero, List.set_cons_succ]
      refine takeH 13 36 (v := ?vrd14) rfl rfl (by kernel_rfl) (by kernel_rfl) (by kernel_rfl) (fun _ _ _ h => h) (Or.inl ⟨by rfl, ?hrd14⟩) hH0 ?rrd14
      case hrd14 => (intro w hSw; clear hSw; go_simp; (try with_reducible rfl))
      case rrd14 =>
      try simp only [Act.put, List.setIfInBounds_toArray, List.set_cons_zero, List.set_cons_succ]
      refine takeH 14 37 (v := ?vrd15) rfl rfl (by kernel_rfl) (by kernel_rfl) (by kernel_rfl) (fun _ _ _ h => h) (Or.inl ⟨by rfl, ?hrd15⟩) hH0 ?rrd15
      case hrd15 => (intro w hSw; obtain ⟨s0, s1, s2, s3, s4, s5⟩ := hSw; go_simp; (try with_reducible rfl))
      case rrd15 =>
      try simp only [Act.put, List.setIfInBounds_toArray, List.set_cons_zero, List.set_cons_succ]
      refine takeH 15 38 (v := ?vrd16) rfl rfl (by kernel_rfl) (by kernel_rfl) (by kernel_rfl) (fun _ _ _ h => h) (Or.inl ⟨by rfl, ?hrd16⟩) hH0 ?rrd16
      case hrd16 => (intro w hSw; clear hSw; go_simp; (try with_reducible rfl))
      case rrd16 =>
      try simp only [Act.put, List.setIfInBounds_toArray, List.set_cons_zero, List.set_cons_succ]
      refine takeH 16 39 (v := ?vrd17) rfl rfl (by kernel_rfl) (by kernel_rfl) (by kernel_rfl) (fun _ _ _ h => h) (Or.inl ⟨by rfl, ?hrd17⟩) hH0 ?rrd17
      case hrd17 => (intro w hSw; clear hSw; go_simp; (try with_reducible rfl))
      case rrd17 =>
      try simp only [Act.put, List.setIfInBounds_toArray, List.set_cons_zero, List.set_cons_succ]
      refine takeH 17 40 (v := ?vrd18) rfl rfl (by kernel_rfl) (by kernel_rfl) (by kernel_rfl) (fun _ _ _ h => h) (Or.inl ⟨by rfl, ?hrd18⟩) hH0 ?rrd18
      case hrd18 => (intro w hSw; clear hSw; go_simp; (try with_reducible rfl))
      case rrd18 =>
      try simp only [Act.put, List.setIfInBounds_toArray, List.set_cons_zero, List.set_cons_succ]
      refine takeH 18 41 (v := ?vrd19) rfl rfl (by kernel_rfl) (by kernel_rfl) (by kernel_rfl) (fun _ _ _ h => h) (Or.inl ⟨by rfl, ?hrd19⟩) hH0 ?rrd19
      case hrd19 => (intro w hSw; obtain ⟨s0, s1, s2, s3, s4, s5⟩ := hSw; go_simp; (try with_reducible rfl))
      case rrd19 =>
      try simp only [Act.put, List.setIfInBounds_toArray, List.set_cons_zero, List.set_cons_succ]
      refine takeH 19 42 (v := ?vrd20) rfl rfl (by kernel_rfl) (by kernel_rfl) (by kernel_rfl) (fun _ _ _ h => h) (Or.inl ⟨by rfl, ?hrd20⟩) hH0 ?rrd20
      case hrd20 => (intro w hSw; clear hSw; go_simp; (try with_reducible rfl))
      case rrd20 =>
      try simp only [Act.put, List.setIfInBounds_toArray, List.set_cons_zero, List.set_cons_succ]
      have S7 := unhide HSB (wr.drew.alloc (.cells #[.string c.col, .string (opT c.op), .bool c.lit.str, .int .i64 c.lit.i, .string c.lit.s] 259)) ((oE.mono (fun _ _ e => e.elim)).alloc _)
      refine soneH 20 (by kernel_rfl) rfl 43 rfl rfl (v := .slice (some ⟨wr.drew.heap.size, 0, none⟩) 1 1) (w1 := (wr.drew.alloc (.cells #[.string c.col, .string (opT c.op), .bool c.lit.str, .int .i64 c.lit.i, .string c.lit.s] 259))) ?bd ?kbd
      case bd => (go_simp; (try with_reducible rfl))
      case kbd =>
      refine ⟨S7, ?_⟩
      try simp only [Act.put, List.setIfInBounds_toArray, List.set_cons_zero, List.set_cons_succ]
      refine sappH 21 (by kernel_rfl) rfl 44 rfl rfl _ _ _ rfl 0 259 k0 _ 5 64 Tryz.underlying188 hk0 hx0 hx1 hx2 rfl (by omega) (.slice va i vc) i (smcs (st.wh.take i)) rfl ((unhide HOW).alloc _) ⟨wr.drew.heap.size, 0, none⟩ 1 1 [.string c.col, .string (opT c.op), .bool c.lit.str, .int .i64 c.lit.i, .string c.lit.s] rfl rfl (World.news_of_block (cs := #[.string c.col, .string (opT c.op), .bool c.lit.str, .int .i64 c.lit.i, .string c.lit.s]) (t := 259) (fr := (0, 0)) (heap_alloc_new wr.drew _)) (by simp [Value.oneCell']) (by omega) (by unfold maxLen; omega) (by omega) (by simp) (wr.drew.heap.size + 1) (by simp) ?apx
      case apx =>
      intro gg cap3 w9 hown1 hgrow hat hlt3
      have HQ := hide (unhide HGp (.slice (some ⟨gg, 0, none⟩) (i + 1) cap3) w9 _ hown1 hgrow (fun b hb => by
        have hb' : gg = b := by simpa [Value.ownBlock] using hb
        subst hb'
        exact hat))
      have S9 := unhide HSB w9 (((oE.mono (T := fun k => (Value.slice va i vc).ownBlock = some k) (fun _ _ e => e.elim)).alloc (.cells #[.string c.col, .string (opT c.op), .bool c.lit.str, .int .i64 c.lit.i, .string c.lit.s] 259)).grown hgrow (fun b hb _ => hb))
      refine ⟨S9, ?_⟩
      try simp only [Act.put, List.setIfInBounds_toArray, List.set_cons_zero, List.set_cons_succ]
      refine takeH 22 7 (v := ?vrd21) rfl rfl (by kernel_rfl) (by kernel_rfl) (by kernel_rfl) (fun _ _ _ h => h) (Or.inl ⟨by rfl, ?hrd21⟩) S9 ?rrd21
      case hrd21 => (intro w hSw; clear hSw; go_simp; (try with_reducible rfl))
      case rrd21 =>
      try simp only [Act.put, List.setIfInBounds_toArray, List.set_cons_zero, List.set_cons_succ]
      refine wpAnyH_done (by kernel_rfl) ?_ _
      clear hown1 hgrow hat hlt3 S9 S7 oE HSB hsb0 HGp HOW
      go_wp2_with fail
      go_roundw
      case rel => exact ⟨i + 1, by go_num, by omega, by rw [List.take_add_one, unhide HYY, Option.toList_some, smcs_app]; exact unhide HQ⟩
      case measure => simp [intOf]; omega
    · have b1 : decide ((i : Int) < (n : Int)) = false := decide_eq_false (by omega)
      have b1p : ¬ (i : Int) < (n : Int) := by omega
      have hie : i = n := by omega
      subst hie
      obtain ⟨va, vc, hov⟩ := ownsRow_shape hg.own
      subst hov
      have FF := hide (show ∀ W, Only (fun _ => False) wr W → RdP t w (.returned (.tuple #[.int .i64 st.kind, .string st.table, .slice va i vc])) W from fun W oW => ⟨.slice va i vc, by rw [(unhide HF).1, (unhide HF).2.1], by rw [(unhide HF).2.2]; have h := hg.own; rw [List.take_of_length_le (by rw [unhide HN]; exact Nat.le_refl _)] at h; unfold OwnSc; rw [unhide HN]; exact ownsRow_keep h oW (fun _ _ e => e), (fun k hk => Nat.le_trans (unhide HX).2.2.size (hg.hb k hk)), ((unhide HX).2.2.trans hg.ho (fun _ _ e => e)).trans oW (fun _ _ e => e)⟩)
      clear hg PP HX
      go_wp2_with fail
      go_quiet (fail)
      go_wp2_with fail
      go_ret3
      exact unhide FF _ (onlyQ _ _)
theorem smread_any (t : ByteArray) (w : World) : Calls Tryz.prog 124 #[.string t] w (RdP t w) := by
  cases hp : parB t with
  | true => exact smread_good t w hp
  | false => exact smread_bad t w hp
end Go.Proofs.Qxb6500412aGreat
