/-
  OWN WORK. THE TXN LAW: Follow: the list grown (written by tools/gen_xg3.py).
-/
import Derived.Test.Qxb6500414aGreatXG2
namespace Go.Proofs.Qxb6500414aGreat
open Go.RowKit Go.PlainAid
set_option linter.unusedSimpArgs false
set_option linter.unusedVariables false

section
variable {ops : Array Oper} {o p : Oper} {a : Act} {w : World} {Q : Exit → Act → World → Prop} {md : Region.Mode} {S : World → Prop} {fuel : Nat} {listed : Array Bool}
/-- In a region that draws: the one operation that may come next yields a value. -/
theorem oneH (i : Nat) (hr : Region.ready md ops listed = [i]) (hi : ops[i]? = some o) (d : Nat) (hd : o.dst = some d) (hgd : o.guard = none) {v : Value} {w1 : World} (hx : (execOp a.eval o).run Tryz.prog w = .ok (.value v) w1) (hK : S w1 ∧ wpAnyH Tryz.prog md ops Q S fuel (listed.setIfInBounds i true) (a.put (some d) v) w1) : wpAnyH Tryz.prog md ops Q S (fuel + 1) listed a w := by
  rw [← hd] at hK
  refine wpAnyH_ready hr (by simp) (AllReadyH.cons hi (fun K' hK' => ?_) AllReadyH.nil)
  have hw : Region.wanted o (yielded ops a.tmps) = true := by simp [Region.wanted, hgd]
  rw [if_pos hw]
  unfold Oper.wp
  rw [hx]
  exact hK'.out _ _ hK.1 (fun _ => hK.2)
/-- In a region that draws: one of two comes next; each yields a value. -/
theorem pairH (i j : Nat) (hr : Region.ready md ops listed = [i, j]) (hi : ops[i]? = some o) (hj : ops[j]? = some p) (d e : Nat) (hd : o.dst = some d) (he : p.dst = some e) (hgd : o.guard = none) (hge : p.guard = none) {v u : Value} {w1 w2 : World} (hx : (execOp a.eval o).run Tryz.prog w = .ok (.value v) w1) (hy : (execOp a.eval p).run Tryz.prog w = .ok (.value u) w2) (hK : S w1 ∧ wpAnyH Tryz.prog md ops Q S fuel (listed.setIfInBounds i true) (a.put (some d) v) w1) (hL : S w2 ∧ wpAnyH Tryz.prog md ops Q S fuel (listed.setIfInBounds j true) (a.put (some e) u) w2) : wpAnyH Tryz.prog md ops Q S (fuel + 1) listed a w := by
  rw [← hd] at hK
  rw [← he] at hL
  refine wpAnyH_ready hr (by simp) (AllReadyH.cons hi (fun K' hK' => ?_) (AllReadyH.cons hj (fun K' hK' => ?_) AllReadyH.nil))
  · have hw : Region.wanted o (yielded ops a.tmps) = true := by simp [Region.wanted, hgd]
    rw [if_pos hw]
    unfold Oper.wp
    rw [hx]
    exact hK'.out _ _ hK.1 (fun _ => hK.2)
  · have hw : Region.wanted p (yielded ops a.tmps) = true := by simp [Region.wanted, hge]
    rw [if_pos hw]
    unfold Oper.wp
    rw [hy]
    exact hK'.out _ _ hL.1 (fun _ => hL.2)
/-- In a region that draws: the one operation that may come next appends. -/
theorem appH (i : Nat) (hr : Region.ready md ops listed = [i]) (hi : ops[i]? = some o) (d : Nat) (hd : o.dst = some d) (hgd : o.guard = none) (s x : Operand) (t : TypeId) (ho : o.op = .call { callee := .builtin .append, args := #[s, x], argTypes := #[t, t] })
    (base : Nat) (e : TypeId) (i0 : TypeInfo) (z : Value) (size bytes : Nat) (ht : Tryz.prog.underlying t = some (.slice e)) (hi0 : Tryz.prog.info? e = some i0) (hz : i0.zero = some z)
    (hsize : i0.size = size) (hby : i0.bytes = bytes) (hzs : z.cells.size = size) (hsz : 0 < size)
    (v : Value) (n : Nat) (xs : List Value) (hs : a.eval s = v) (hown : w.ownsRow base e size v n xs)
    (ad : Addr) (m c : Nat) (news : List Value) (hx : a.eval x = .slice (some ad) m c) (hl : news.length = m * size) (hnews : ∀ j u, news[j]? = some u → w.cell? (ad.add j) = some u) (h1 : ∀ u ∈ news, u.oneCell' = true)
    (hm : 0 < m) (h63 : n + m ≤ maxLen) (hbytes : (n + m) * bytes ≤ 140737488355328) (hbase : base ≤ w.heap.size) (H : Nat) (hH : w.heap.size = H)
    (hK : ∀ g cap w', w'.ownsRow base e size (.slice (some ⟨g, 0, none⟩) (n + m) cap) (n + m) (xs ++ news) → w.grownBy w' v.ownBlock → (v.ownBlock = some g ∨ g = H) → g < w'.heap.size → S w' ∧ wpAnyH Tryz.prog md ops Q S fuel (listed.setIfInBounds i true) (a.put (some d) (.slice (some ⟨g, 0, none⟩) (n + m) cap)) w') : wpAnyH Tryz.prog md ops Q S (fuel + 1) listed a w := by
  rw [← hd] at hK
  exact wpAnyH_ready hr (by simp) (AllReadyH.cons hi (fun K' hK' => step_append_lies w hgd s x t ho base e i0 z size bytes ht hi0 hz hsize hby hzs hsz v n xs hs hown ad m c news hx hl hnews h1 hm h63 hbytes hbase H hH (fun g cap w' a1 a2 a3 a4 => hK'.out _ _ (hK g cap w' a1 a2 a3 a4).1 (fun _ => (hK g cap w' a1 a2 a3 a4).2))) AllReadyH.nil)
end
theorem run_store_recs {w : World} {ad : Addr} {old : Value} (h : w.cell? ad = some old) (hf : w.frozen? ad = false) (b : Option Addr) (n c : Nat) : (storeVar 38 ad (.slice b n c)).run Tryz.prog w = .ok () (w.setCell ad (.slice b n c)) := by
  go_simp
theorem Tryz.infoXLRec : (Tryz.prog.info? 132).map (fun i => (i.zero, i.size, i.bytes)) = some (some (.agg #[.int .i64 0, .int .i64 0, .int .i64 0, .int .i64 0, .string ⟨#[]⟩, .string ⟨#[]⟩, .int .i64 0, .int .i64 0, .slice none 0 0, .slice none 0 0, .string ⟨#[]⟩, .slice none 0 0, .int .i64 0, .int .i64 0, .slice none 0 0]), 15, 208) := by kernel_rfl
/-- The list grown by a record. -/
theorem fo_app {w1 w5 : World} {q : Gnd} {w : World} {g x kG n : Nat} {M' : Mu} {K : Nat → Prop} {m : GhM} {sh : Db} {am : AnM} {an : An} (G : GhAt w1 kG m sh) (A : AnAt w1 am an) (R : RX q w1 g x M' K) (hn : n < 4) (hGs : ∀ k, m.A kG k → ¬ q.A k ∧ k ≠ x ∧ ¬ K k) (hAs : ∀ k, AnB am k → ¬ q.A k ∧ k ≠ x ∧ ¬ K k ∧ ¬ m.T kG k) {ob : Option Nat} (oB : Only (fun k => ob = some k) w1 w5) (hob : (m.lv n).ownBlock = ob) {v : Value} (r : Rm) (hr : r = ⟨⟨r.r.kd, r.r.a, r.r.bb, r.r.cc, r.r.s, r.r.t, an⟩, am⟩) (ht : r.r.t.size ≤ maxLen) (hl : (m.ls n).length < 64) (hv : w5.ownsRow 0 132 15 v ((m.ls n).length + 1) (rcs (m.ls n ++ [r]))) (hb : ∀ k, v.ownBlock = some k → (m.lv n).ownBlock = some k ∨ w1.heap.size ≤ k) (hS : SerI M' (m.setL n v (m.ls n ++ [r])) sh) (oW : Only (fun _ => False) w w1) : ∃ m2 sh2, GhAt (w5.setCell ⟨kG, 1 + n, none⟩ v) kG m2 sh2 ∧ SerI M' m2 sh2 ∧ RX q (w5.setCell ⟨kG, 1 + n, none⟩ v) g x M' K ∧ (∀ k, m2.A kG k → m.A kG k ∨ AnB am k ∨ w.heap.size ≤ k) ∧ (∀ k, m2.T kG k → m.T kG k ∨ w.heap.size ≤ k) ∧ Only (fun k => q.S k ∨ m.T kG k) w (w5.setCell ⟨kG, 1 + n, none⟩ v) := by
  subst hob
  have era : r.r.an = an := by rw [hr]
  have erm : r.m = am := by rw [hr]
  have hlt := G.lt
  have ne := G.ne
  have wsz := oW.size
  have inB : ∀ k, (m.lv n).ownBlock = some k → m.T kG k := fun k h => .inr (.inr ⟨n, hn, h⟩)
  have L : RcL w5 v (m.ls n ++ [r]) := by
    refine ⟨by rw [List.length_append]; exact hv, fun y hy => ?_⟩
    rcases List.mem_append.mp hy with hy | hy
    · exact ((G.rl n hn).an y hy).keep oB (fun k hk c => (G.lne hn c).2.2 n hn ⟨y, hy, hk⟩)
    · obtain rfl : y = r := by simpa using hy
      rw [era, erm]
      exact A.keep oB (fun k hk c => (hAs k hk).2.2.2 (inB k c))
  have hrb : ∀ k, RcB (m.ls n ++ [r]) k → RcB (m.ls n) k ∨ AnB am k := by
    rintro k ⟨y, hy, hk⟩
    rcases List.mem_append.mp hy with hy | hy
    · exact .inl ⟨y, hy, hk⟩
    · obtain rfl : y = r := by simpa using hy
      rw [erm] at hk
      exact .inr hk
  have hT : ∀ k, (m.setL n v (m.ls n ++ [r])).T kG k → m.T kG k ∨ w.heap.size ≤ k := by
    rintro k (h | h | ⟨s, hs, h⟩)
    · exact .inl (.inl h)
    · exact .inl (.inr (.inl h))
    · have h2 : (if s = n then v else m.lv s).ownBlock = some k := h
      by_cases c : s = n
      · rw [if_pos c] at h2
        rcases hb k h2 with h3 | h3
        · exact .inl (inB k h3)
        · exact .inr (by omega)
      · rw [if_neg c] at h2
        exact .inl (.inr (.inr ⟨s, hs, h2⟩))
  have o2 : Only (fun k => k = kG) w5 (w5.setCell ⟨kG, 1 + n, none⟩ v) := only1 _ _
  have o3 : Only (fun k => m.T kG k) w1 (w5.setCell ⟨kG, 1 + n, none⟩ v) := (oB.mono (T := fun k => m.T kG k) (fun k _ h => inB k h)).trans (o2.mono (T := fun k => m.T kG k) (fun k _ h => .inl h)) (fun _ _ h => h)
  refine ⟨m.setL n v (m.ls n ++ [r]), sh, G.setL (B := fun k => (m.lv n).ownBlock = some k) hn oB (fun k h => h) L (fun s hs hne k hk c => ?_) (fun k hk c => ?_) (fun k hk => ?_) (by rw [List.length_append]; simp; omega) (fun y hy => ?_), hS, ?_, ?_, hT, ?_⟩
  · rcases hb k hk with h | h
    · exact G.sep n s hn hs (fun e => hne e.symm) k h c
    · have := hlt k (.inl (.inr (.inr ⟨s, hs, c⟩))); omega
  · rcases hb k hk with h | h
    · exact ne.2.1 n hn k h c
    · have := hlt kG (.inl (.inl rfl)); omega
  · rcases hrb k hk with h | h
    · exact ⟨G.sa n hn k h, ne.2.2 n hn k h⟩
    · exact ⟨fun c => (hAs k h).2.2.2 (.inr (.inl c)), fun c => (hAs k h).2.2.2 (.inl c)⟩
  · rcases List.mem_append.mp hy with hy | hy
    · exact G.tl n hn y hy
    · obtain rfl : y = r := by simpa using hy
      exact ht
  · exact R.keep o3 (fun k hk c => by
      have h2 := hGs k (.inl c)
      rcases hk with hk | hk | hk
      · exact h2.1 hk
      · exact h2.2.1 hk
      · exact h2.2.2 hk)
  · rintro k (h | h | ⟨s, hs, h⟩)
    · rcases hT k h with h | h
      · exact .inl (.inl h)
      · exact .inr (.inr h)
    · exact .inl (.inr (.inl h))
    · have h2 : RcB (if s = n then m.ls n ++ [r] else m.ls s) k := h
      by_cases c : s = n
      · rw [if_pos c] at h2
        rcases hrb k h2 with h3 | h3
        · exact .inl (.inr (.inr ⟨n, hn, h3⟩))
        · exact .inr (.inl h3)
      · rw [if_neg c] at h2
        exact .inl (.inr (.inr ⟨s, hs, h2⟩))
  · exact (oW.mono (T := fun k => q.S k ∨ m.T kG k) (fun _ _ h => h.elim)).trans (o3.mono (T := fun k => q.S k ∨ m.T kG k) (fun k _ h => .inr h)) (fun _ _ h => h)
section
variable {q : Gnd} {w : World} {g x kG n : Nat} {M M' : Mu} {K : Nat → Prop} {m : GhM} {sh : Db} {am : AnM} {an : An} {kd a bb cc : Int} {s t : ByteArray}
end
end Go.Proofs.Qxb6500414aGreat
