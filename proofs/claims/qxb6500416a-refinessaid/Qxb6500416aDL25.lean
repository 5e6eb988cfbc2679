/-
  OWN WORK. THE LAW OF DIFF: Tweak, the hunk is doubled.
-/
import Derived.Test.Qxb6500416aDL24
import Derived.Deep.DeepCutAuto
namespace Go.Proofs.Qxb6500416a
open Go.RowKit Go.PlainAid
set_option linter.unusedSimpArgs false
set_option linter.unusedVariables false

/-- The doubled row in the midst: the law's block shows it, h stands at c. -/
structure Dbl (W1 : World) (l e g c gg capg n d q : Nat) (mp r0 r1 k0 k1 k2 k3 : Value) (tx : ByteArray) (hs : List HV) (at_ : Int) (D N : List Str) (i : Nat) (X : HV) (w : World) : Prop where
  lw : LW w l (.pointer (some ⟨e, 0, none⟩)) mp (.slice (some ⟨gg, 0, none⟩) (n + 1) capg) (.string tx) r0 r1 k0 k1 k2 k3
  row : w.ownsRow 0 62 3 (.slice (some ⟨gg, 0, none⟩) (n + 1) capg) (n + 1) (hvCells (inL hs i X))
  hh : Has w c #[.int .i64 at_, .slice (some ⟨d, 0, none⟩) D.length D.length, .slice (some ⟨q, 0, none⟩) N.length N.length] 62
  del : OwnL w (.slice (some ⟨d, 0, none⟩) D.length D.length) D
  ins : OwnL w (.slice (some ⟨q, 0, none⟩) N.length N.length) N
  ho : Only (fun y => y = g ∨ y = l) W1 w
  len : hs.length = n
  dlt : W1.heap.size ≤ d
  dq : d < q
  qc : q < c
  ggd : gg = g ∨ c < gg
  gl : g < W1.heap.size
section
variable {W1 w w' : World} {l e g c gg capg n d q : Nat} {mp r0 r1 k0 k1 k2 k3 : Value} {tx : ByteArray} {hs : List HV} {at_ : Int} {D N : List Str} {i : Nat} {X : HV}
/-- One hunk of the row is written. -/
theorem Dbl.put (h : Dbl W1 l e g c gg capg n d q mp r0 r1 k0 k1 k2 k3 tx hs at_ D N i X w) (hi : i ≤ n) (a : Int) (u v : Value) (hw : Only (fun _ => False) w w') : Dbl W1 l e g c gg capg n d q mp r0 r1 k0 k1 k2 k3 tx hs at_ D N i ⟨a, u, v⟩ (((w'.setCell ⟨gg, i * 3, none⟩ (.int .i64 a)).setCell ⟨gg, i * 3 + 1, none⟩ u).setCell ⟨gg, i * 3 + 2, none⟩ v) := by
  have hl := h.len
  have hdl := h.dlt
  have hdq := h.dq
  have hqc := h.qc
  have hgl := h.gl
  have hgg := h.ggd
  have o0 : Only (fun y => y = gg) w w' := hw.mono (fun _ _ h => h.elim)
  have o1 : Only (fun y => y = gg) w _ := o0.trans (only_hunk (w := w') (g := gg) (i := i) (.int .i64 a) u v) (fun _ _ h => h)
  have hr := row_hunk (ownsRow_keep h.row hw (fun _ _ h => h)) i (by omega) (by rw [inL_len _ _ _ (by omega)]; omega) a u v
  rw [inL_set _ _ _ _ (by omega)] at hr
  obtain ⟨cg, hgh⟩ := own_ty h.row gg rfl
  refine ⟨Has.keep h.lw o1 (Ne.symm (Has.ne hgh h.lw (by decide))), hr, h.hh.keep o1 (fun e => by omega), h.del.keep o1 (fun y hy e => ?_), h.ins.keep o1 (fun y hy e => ?_), h.ho.trans o1 (fun y hy e => ?_), h.len, h.dlt, h.dq, h.qc, h.ggd, h.gl⟩
  · simp [Value.ownBlock] at hy; omega
  · simp [Value.ownBlock] at hy; omega
  · omega
theorem Dbl.start {B cap : Nat} {p : List Hk} {A0 A1 : List Fl} {L : List Str} {F R M : Nat → Prop} {W3 w4 : World} (h1 : LS B W1 l e mp (.slice (some ⟨g, 0, none⟩) n cap) r0 r1 k0 k1 k2 k3 tx hs p A0 A1 L F R M) (hn : hs.length = n) (o3 : Only (fun _ => False) W1 W3) (hc : Has W3 c #[.int .i64 at_, .slice (some ⟨d, 0, none⟩) D.length D.length, .slice (some ⟨q, 0, none⟩) N.length N.length] 62) (hD : OwnL W3 (.slice (some ⟨d, 0, none⟩) D.length D.length) D) (hN : OwnL W3 (.slice (some ⟨q, 0, none⟩) N.length N.length) N) (hd : W1.heap.size ≤ d) (hdq : d < q) (hqc : q < c)
    (oG : Only (fun y => y = g) W3 w4) (hown : w4.ownsRow 0 62 3 (.slice (some ⟨gg, 0, none⟩) (n + 1) capg) (n + 1) (hvCells hs ++ [.int .i64 at_, .slice (some ⟨d, 0, none⟩) D.length D.length, .slice (some ⟨q, 0, none⟩) N.length N.length])) (hat : gg = g ∨ gg = W3.heap.size + 1) :
    Dbl W1 l e g c gg capg n d q mp r0 r1 k0 k1 k2 k3 tx hs at_ D N n ⟨at_, .slice (some ⟨d, 0, none⟩) D.length D.length, .slice (some ⟨q, 0, none⟩) N.length N.length⟩ (w4.setCell ⟨l, 2, none⟩ (.slice (some ⟨gg, 0, none⟩) (n + 1) capg)) := by
  obtain ⟨cg, hgh⟩ := own_ty h1.pat.1 g rfl
  have hgl := hgh.lt
  have hll := Has.lt h1.lw
  have hne : g ≠ l := Has.ne hgh h1.lw (by decide)
  have hcl := hc.lt
  have s3 := o3.size
  have o5 := donly1 (w := w4) (p := l) 2 (.slice (some ⟨gg, 0, none⟩) (n + 1) capg)
  have hl4 := LW.keep (LW.keep h1.lw o3 (fun h => h)) oG (fun e => hne e.symm)
  have e1 : hvCells hs ++ [.int .i64 at_, .slice (some ⟨d, 0, none⟩) D.length D.length, .slice (some ⟨q, 0, none⟩) N.length N.length] = hvCells (inL hs n ⟨at_, .slice (some ⟨d, 0, none⟩) D.length D.length, .slice (some ⟨q, 0, none⟩) N.length N.length⟩) := by
    rw [← hn, inL_end, hvCells_snoc]
  rw [e1] at hown
  refine ⟨hl4.set2 _, ownsRow_keep hown o5 (fun y hy e => ?_), (hc.keep oG (fun e => by omega)).keep o5 (fun e => by omega), (hD.keep oG (fun y hy e => ?_)).keep o5 (fun y hy e => ?_), (hN.keep oG (fun y hy e => ?_)).keep o5 (fun y hy e => ?_), ((o3.mono (T := fun y => y = g ∨ y = l) (fun _ _ h => h.elim)).trans oG (fun _ _ h => .inl h)).trans o5 (fun _ _ h => .inr h), hn, hd, hdq, hqc, ?_, hgl⟩
  · simp [Value.ownBlock] at hy; omega
  · simp [Value.ownBlock] at hy; omega
  · simp [Value.ownBlock] at hy; omega
  · simp [Value.ownBlock] at hy; omega
  · simp [Value.ownBlock] at hy; omega
  · omega
theorem Dbl.down {j : Nat} (hj : j < hs.length) (h : Dbl W1 l e g c gg capg n d q mp r0 r1 k0 k1 k2 k3 tx hs at_ D N (j + 1) hs[j] w) : Dbl W1 l e g c gg capg n d q mp r0 r1 k0 k1 k2 k3 tx hs at_ D N j hs[j] w :=
  { h with row := by have := h.row; rw [inL_down hs j hj] at this; exact this }
theorem Dbl.step {j : Nat} {t : Int} {u v : Value} (h : Dbl W1 l e g c gg capg n d q mp r0 r1 k0 k1 k2 k3 tx hs at_ D N i X w) (hij : i = j + 1) (hj : j < hs.length) (hX : hs[j] = ⟨t, u, v⟩) (hw : Only (fun _ => False) w w') : Dbl W1 l e g c gg capg n d q mp r0 r1 k0 k1 k2 k3 tx hs at_ D N j hs[j] (((w'.setCell ⟨gg, i * 3, none⟩ (.int .i64 t)).setCell ⟨gg, i * 3 + 1, none⟩ u).setCell ⟨gg, i * 3 + 2, none⟩ v) := by
  subst hij
  have h1 := h.put (w' := w') (by have := h.len; omega) t u v hw
  rw [← hX] at h1
  exact h1.down hj
theorem Dbl.at {j : Nat} {t : Int} {u v : Value} (h : Dbl W1 l e g c gg capg n d q mp r0 r1 k0 k1 k2 k3 tx hs at_ D N i X w) (hij : i = j + 1) (hj : j < hs.length) (hX : hs[j] = ⟨t, u, v⟩) : w.cell? ⟨gg, j * 3, none⟩ = some (.int .i64 t) ∧ w.cell? ⟨gg, j * 3 + 1, none⟩ = some u ∧ w.cell? ⟨gg, j * 3 + 2, none⟩ = some v := by
  subst hij
  have hl : j < (inL hs (j + 1) X).length := by rw [inL_len _ _ _ (by omega)]; omega
  have := row_at h.row j hl
  rw [inL_get hs j X hj hl, hX] at this
  exact this
end
set_option maxRecDepth 100000 in
set_option maxHeartbeats 4000000 in
theorem tweak_5 {B : Nat} {w : World} {l e g cap : Nat} {mp r0 r1 k0 k1 k2 k3 : Value} {tx : ByteArray} {hs : List HV} {p : List Hk} {A0 A1 : List Fl} {L : List Str} {F R M : Nat → Prop} (h : LS B w l e mp (.slice (some ⟨g, 0, none⟩) p.length cap) r0 r1 k0 k1 k2 k3 tx hs p A0 A1 L F R M) (a : Nat) (ha : a < p.length) (b : Int) (s : ByteArray) (hd : p.length ≤ 2048) :
    Calls Try.prog 15 #[.pointer (some ⟨l, 0, none⟩), .int .i64 a, .int .i64 b, .int .i64 5, .string s] w fun x w' => x = .returned (.tuple #[]) ∧ Stp B l w w' := by
  have has : a < hs.length := by have := h.pat.len; omega
  obtain ⟨i0, hi0, hz0, hz1, hz2⟩ := info_parts Try.infoHunk
  obtain ⟨x, hx⟩ : ∃ x, x = wrap64 (p[a].at_ + b) := ⟨_, rfl⟩
  have hxr : -9223372036854775808 ≤ x ∧ x ≤ 9223372036854775807 := by
    rw [hx]
    exact wrap64_in _
  have b1 : decide ((a : Int) < 0) = false := decide_eq_false (by omega)
  have b2 : decide ((p.length : Int) ≤ (a : Int)) = false := decide_eq_false (by omega)
  have b3 : (a : Int) < (p.length : Int) := by omega
  have e1 : decide ((2048 : Int) < (p.length : Int)) = false := decide_eq_false (by omega)
  obtain ⟨g', cap', _, ee, hgl, c0, c1, c3, hok⟩ := h.pat.at a ha
  obtain ⟨rfl, rfl⟩ : g = g' ∧ cap = cap' := by simpa using ee
  obtain ⟨cc, hgh⟩ := own_ty h.pat.1 g rfl
  have f0 := hgh.free (a * 3)
  have c2 := Has.cell h.lw 2
  have ll := Has.lt h.lw
  have hne : g ≠ l := Has.ne hgh h.lw (by decide)
  have h1 := h.at_ a ha has x hxr.1 hxr.2
  have hk := h.pb.all p[a] (List.getElem_mem ha)
  have o1 := donly1 (w := w) (p := g) (a * 3) (.int .i64 x)
  have hb : B ≤ g := h.bR g (h.pat.2.2 g rfl)
  have hlen : hs.length = p.length := h.pat.len
  have hlp : (p.set a ⟨x, p[a].del, p[a].ins⟩).length = p.length := by simp
  have hlh : (hs.set a ⟨x, hs[a].dv, hs[a].iv⟩).length = p.length := by simp [hlen]
  obtain ⟨g9, cap9, _, e9, _, q0, q9, q10, hok1⟩ := h1.pat.at a (by simpa using ha)
  have eg : g = g9 := by simp at e9; exact e9.1
  subst eg
  simp only [List.getElem_set_self] at q0 q9 q10 hok1
  have C1 := hide (fun W (hW : Only (fun _ => False) (w.setCell ⟨g, a * 3, none⟩ (.int .i64 x)) W) => copyHunk_any (w := W) x hs[a].dv hs[a].iv p[a].del p[a].ins (hok1.del.in_.keep hW (fun _ _ h => h)) (hok1.ins.in_.keep hW (fun _ _ h => h)) (by have := hk.del; omega) (by have := hk.ins; omega))
  obtain ⟨da, dc, ed⟩ := own_len hok1.del
  obtain ⟨ia, ic, ei⟩ := own_len hok1.ins
  simp only at ed ei
  have hsl : Hid (∀ j (hj : j < (hs.set a ⟨x, hs[a].dv, hs[a].iv⟩).length), ∃ t a1 n1 c1 a2 n2 c2, (hs.set a ⟨x, hs[a].dv, hs[a].iv⟩)[j] = ⟨t, .slice a1 n1 c1, .slice a2 n2 c2⟩) := hide (fun j hj => by
    have := h1.pat.2.1.get j hj (by rw [hlp]; omega)
    obtain ⟨a1, c1, e1⟩ := own_len this.del
    obtain ⟨a2, c2, e2⟩ := own_len this.ins
    generalize (hs.set a ⟨x, hs[a].dv, hs[a].iv⟩)[j] = y at *
    cases y
    simp only at e1 e2
    subst e1 e2
    exact ⟨_, _, _, _, _, _, _, rfl⟩)
  rw [ed, ei] at C1
  rw [ed] at q9 c1
  rw [ei] at q10 c3
  have HG := hide (fun (W1 : World) (h1 : LS B W1 l e mp (.slice (some ⟨g, 0, none⟩) p.length cap) r0 r1 k0 k1 k2 k3 tx (hs.set a ⟨x, hs[a].dv, hs[a].iv⟩) (p.set a ⟨x, p[a].del, p[a].ins⟩) A0 A1 L F R M) (w' : World) (gg capg c d q : Nat) (hD : Dbl W1 l e g c gg capg p.length d q mp r0 r1 k0 k1 k2 k3 tx (hs.set a ⟨x, hs[a].dv, hs[a].iv⟩) x p[a].del p[a].ins a ⟨x, .slice (some ⟨d, 0, none⟩) p[a].del.length p[a].del.length, .slice (some ⟨q, 0, none⟩) p[a].ins.length p[a].ins.length⟩ w') => by
    have h1' := hD.dlt
    have h2' := hD.dq
    have h3' := hD.qc
    have h4' := Has.lt hD.hh
    have h5' := ownsRow_lt hD.row gg rfl
    have ho := hD.ho
    have hG := LS.doubled (p := p.set a ⟨x, p[a].del, p[a].ins⟩) (cap := cap) (w := W1) (w' := w') (gg := gg) (capg := capg) (dv := .slice (some ⟨d, 0, none⟩) p[a].del.length p[a].del.length) (iv := .slice (some ⟨q, 0, none⟩) p[a].ins.length p[a].ins.length) (by rw [hlp]; exact h1) a (by rw [hlp]; exact ha) (by rw [hlp]; exact hd) ho (by rw [hlp]; exact hD.lw) (by simpa using hD.row) (by simpa using hD.del) (by simpa using hD.ins) (fun y hy => by simp [Value.ownBlock] at hy; omega) (fun y hy => by simp [Value.ownBlock] at hy; omega) (fun y hy hy' => by simp [Value.ownBlock] at hy hy'; omega) (by
      rcases hD.ggd with e | e
      · exact .inl e
      · exact .inr ⟨by omega, h5'⟩)
    exact hG)
  have H1 := hide h1
  have O1 := hide o1
  clear h h1 ee hgh hxr hok hok1 o1 e9 ed ei hk
  generalize hs.set a ⟨x, hs[a].dv, hs[a].iv⟩ = hs1 at *
  generalize p.set a ⟨x, p[a].del, p[a].ins⟩ = p1 at *
  generalize p[a].del = D at *
  generalize p[a].ins = N at *
  go_enter Try.func15, Try.ntmps15
  go_upto_region 16 with fail
  rw [← hx]
  clear hx
  generalize w.setCell ⟨g, a * 3, none⟩ (.int .i64 x) = W1 at *
  have o1z := (unhide O1).size
  have hgW : g < W1.heap.size := by omega
  have q2 := Has.cell (unhide H1).lw 2
  have ql := Has.lt (unhide H1).lw
  have C2 := hide (unhide C1 W1 (Only.refl _ _))
  clear c0 c1 c2 c3 f0 C1 e1
  go_wp2_with fail
  refine (unhide C2).mono ?_
  rintro y w2 ⟨d, q, rfl, hD2, hN2, o2, hd1, hd2, hd3⟩
  obtain ⟨c, hc⟩ : ∃ c, c = w2.heap.size := ⟨_, rfl⟩
  have kh := Has.new' w2 #[.int .i64 x, .slice (some ⟨d, 0, none⟩) D.length D.length, .slice (some ⟨q, 0, none⟩) N.length N.length] 62 c hc
  have o3 : Only (fun _ => False) w2 (w2.alloc (.cells #[.int .i64 x, .slice (some ⟨d, 0, none⟩) D.length D.length, .slice (some ⟨q, 0, none⟩) N.length N.length] 62)) := (Only.refl _ w2).alloc _
  have HD3 := hide (hD2.keep o3 (fun _ _ h => h))
  have HN3 := hide (hN2.keep o3 (fun _ _ h => h))
  have hqc : q < c := by omega
  have O3 := hide (o2.trans o3 (fun _ _ h => h))
  have Hc := hide hc
  clear hD2 hN2 o2 o3 hd3 hc C2 q0 q9 q10
  go_upto_region 17 with fail
  rw [← unhide Hc]
  clear Hc
  generalize w2.alloc (.cells #[.int .i64 x, .slice (some ⟨d, 0, none⟩) D.length D.length, .slice (some ⟨q, 0, none⟩) N.length N.length] 62) = W3 at *
  go_cut [] (fun wx => ∃ gg capg, Dbl W1 l e g c gg capg p.length d q mp r0 r1 k0 k1 k2 k3 tx hs1 x D N p.length ⟨x, .slice (some ⟨d, 0, none⟩) D.length D.length, .slice (some ⟨q, 0, none⟩) N.length N.length⟩ wx)
  case first =>
    have s3 := (unhide O3).size
    have h3 := (unhide H1).quiet (unhide O3)
    have own1 : W3.ownsRow 0 62 3 (.slice (some ⟨g, 0, none⟩) p.length cap) p.length (hvCells hs1) := by have := h3.pat.1; rw [hlh] at this; exact this
    have x2 := Has.cell h3.lw 2
    have x2l := Has.lt h3.lw
    have k0' := kh.cell 0
    have k1' := kh.cell 1
    have k2' := kh.cell 2
    have kl := kh.lt
    have oD : Only (fun _ => False) W3 (W3.alloc (.cells #[.int .i64 x, .slice (some ⟨d, 0, none⟩) D.length D.length, .slice (some ⟨q, 0, none⟩) N.length N.length] 62)).drew := ((Only.refl (fun _ => False) W3).alloc _).drew
    have hEl := LW.keep h3.lw oD (fun h => h)
    have x2' := Has.cell hEl 2
    have x2f := Has.free hEl 2
    have hneg : (Value.slice (some ⟨g, 0, none⟩) p.length cap).ownBlock ≠ some l := fun h => by simp [Value.ownBlock] at h; exact hne h
    have l5 : p.length + 1 ≤ maxLen := by unfold maxLen; omega
    have HS := hide (fun (w4 : World) (gg capg : Nat) oG hown hat => Dbl.start (w4 := w4) (gg := gg) (capg := capg) (unhide H1) hlh (unhide O3) kh (unhide HD3) (unhide HN3) hd1 hd2 hqc oG hown hat)
    clear hEl h3 oD hlh
    go_region_law
      ((refine step_append_lies _ (by rfl) _ _ _ (by rfl) 0 62 i0 _ 3 56 Try.underlying33 hi0 hz0 hz1 hz2 rfl (by omega) (.slice (some ⟨g, 0, none⟩) p.length cap) p.length (hvCells hs1) (by rfl) ((own1.alloc _).drew) ⟨W3.heap.size, 0, none⟩ 1 1 [.int .i64 x, .slice (some ⟨d, 0, none⟩) D.length D.length, .slice (some ⟨q, 0, none⟩) N.length N.length] (by rfl) (by rfl) (World.news_of_block (cs := #[.int .i64 x, .slice (some ⟨d, 0, none⟩) D.length D.length, .slice (some ⟨q, 0, none⟩) N.length N.length]) (t := 62) (fr := (0, 0)) (heap_alloc_new W3 _)) (by simp [Value.oneCell']) (by omega) l5 (by omega) (by simp) (W3.heap.size + 1) (by simp) ?_; intro gg capg w4 hown1 hgrow hat hlt3; have y2 := (hgrow.cell_far ⟨l, 2, none⟩ (by simp; omega) (Ne.symm hneg)).trans x2'; have yz := (hgrow.frozen_far ⟨l, 2, none⟩ (by simp; omega) (Ne.symm hneg)).trans x2f))
    all_goals
      have oG : Only (fun y => y = g) W3 w4 := ((Only.refl (fun y => y = g) W3).alloc _).drew.grown hgrow (fun y hy _ => by simp [Value.ownBlock] at hy; exact hy.symm)
      have hN := hide (unhide HS w4 gg capg oG hown1 (by
        rcases hat with h | h
        · exact .inl (by simp [Value.ownBlock] at h; exact h.symm)
        · exact .inr h))
      clear oG hown1 hgrow hat
      go_wp2_with fail
      go_meet
      exact ⟨gg, capg, unhide hN⟩
  case rest =>
  obtain ⟨gg, capg, hD0⟩ := hcut
  generalize wc = W4 at *
  have c2 := Has.cell hD0.lw 2
  have ll4 := Has.lt hD0.lw
  have HD0 := hide hD0
  clear hD0 kh q2 ql HD3 HN3
  go_wp2_with fail
  go_loopw [11] (fun iv wr => ∃ (i : Nat) (X : HV), iv = .int .i64 i ∧ a ≤ i ∧ i ≤ p.length ∧ Dbl W1 l e g c gg capg p.length d q mp r0 r1 k0 k1 k2 k3 tx hs1 x D N i X wr) (fun iv _ => (intOf iv).toNat)
  case atStart => exact ⟨p.length, _, by go_num, by omega, by omega, unhide HD0⟩
  case round =>
    clear HD0 c2 ll4
    obtain ⟨i, X, rfl, hai, hin, hJ⟩ := hrel
    have c2 := Has.cell hJ.lw 2
    have ll4 := Has.lt hJ.lw
    have hggl := ownsRow_lt hJ.row gg rfl
    obtain ⟨cg, hgh⟩ := own_ty hJ.row gg rfl
    have hgne : gg ≠ l := Has.ne hgh hJ.lw (by decide)
    have hil : i < (inL hs1 i X).length := by rw [inL_len _ _ _ (by have := hJ.len; omega)]; have := hJ.len; omega
    obtain ⟨v0, v1, v2⟩ := row_at hJ.row i hil
    have t1 : (i : Int) < (p.length : Int) + 1 := by omega
    by_cases hlt : a < i
    · obtain ⟨j, hj⟩ : ∃ j, i = j + 1 := ⟨i - 1, by omega⟩
      have hjl : j < hs1.length := by omega
      obtain ⟨t, a1, n1, c1, a2, n2, c2', hX⟩ := unhide hsl j hjl
      obtain ⟨z0, z1, z2⟩ := hJ.at hj hjl hX
      have f0 := hgh.free (i * 3)
      have f1 := hgh.free (i * 3 + 1)
      have f2 := hgh.free (i * 3 + 2)
      have d1 : decide ((a : Int) < (i : Int)) = true := decide_eq_true (by omega)
      have d1n : decide (a < i) = true := decide_eq_true hlt
      have t2 : (i : Int) - 1 = (j : Int) := by omega
      have t3 : IntKind.i64.wrap ((i : Int) - 1) = (j : Int) := by rw [IntKind.wrap_i64]; omega
      have t3' : wrap64 ((i : Int) - 1) = (j : Int) := by unfold wrap64; omega
      have t5 : IntKind.i64.wrap (j : Int) = (j : Int) := by rw [IntKind.wrap_i64]; omega
      have t4 : (j : Int) < (p.length : Int) + 1 := by omega
      have HN := hide (hJ.step hj hjl hX ((Only.refl (fun _ => False) wr).drew))
      have Hj := hide hj
      clear hJ hX hgh hj
      go_upto_region 21 with fail
      go_region
      all_goals
        go_wp2_with fail
        go_roundw
        case rel => exact ⟨j, _, rfl, by have := unhide Hj; omega, by omega, unhide HN⟩
        case measure => simp [intOf]; have := unhide Hj; omega
    · have hia : i = a := by omega
      subst hia
      have d1 : decide ((i : Int) < (i : Int)) = false := decide_eq_false (by omega)
      have d1n : decide (i < i) = false := decide_eq_false (by omega)
      have f0 := hgh.free (i * 3)
      have f1 := hgh.free (i * 3 + 1)
      have f2 := hgh.free (i * 3 + 2)
      have z0 := hJ.hh.cell 0
      have z1 := hJ.hh.cell 1
      have z2 := hJ.hh.cell 2
      have zl := hJ.hh.lt
      have RR := hide (unhide HG W1 (unhide H1) _ gg capg c d q (hJ.put hin x (.slice (some ⟨d, 0, none⟩) D.length D.length) (.slice (some ⟨q, 0, none⟩) N.length N.length) ((Only.refl (fun _ => False) wr).drew)))
      have RR2 := hide (And.intro (unhide RR).1 (((unhide O1).mono (T := fun y => B ≤ y) (fun y _ e => by rw [e]; exact hb)).trans (unhide RR).2 (fun _ _ h => h)))
      clear hJ hgh RR
      go_upto_region 22 with fail
      go_region
      all_goals
        go_wp2_with fail
        go_end0
        exact ⟨rfl, unhide RR2⟩
end Go.Proofs.Qxb6500416a
