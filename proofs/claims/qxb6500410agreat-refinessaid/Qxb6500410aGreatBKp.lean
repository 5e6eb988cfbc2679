/-
  OWN WORK. THE B-TREE LAW: Put.
-/
import Derived.Test.Qxb6500410aGreatBKd
import Derived.Deep.RegionLaw
import Derived.Deep.AppendLies
namespace Go.Proofs.Qxb6500410aGreat
open Go.RowKit Go.PlainAid
set_option linter.unusedSimpArgs false
set_option linter.unusedVariables false

theorem browset {w : World} {e : TypeId} {size g n cap i : Nat} {xs : List Value} (h : w.ownsRow 0 e size (.slice (some ⟨g, 0, none⟩) n cap) n xs) (hi : i < n * size) (u : Value) : (w.setCell ⟨g, i, none⟩ u).ownsRow 0 e size (.slice (some ⟨g, 0, none⟩) n cap) n (xs.set i u) := by
  obtain ⟨hl, h1 | ⟨g', cap', cur, e1, hb, hg, hn, hm, hs, ht⟩⟩ := h
  · exact absurd h1.1 (by simp)
  · obtain ⟨rfl, rfl⟩ : g = g' ∧ cap = cap' := by simpa using e1
    have hH : Has w g cur e := hg
    have hW := hH.setCell i u
    exact ⟨by simpa using hl, .inr ⟨g, cap, _, rfl, hb, hW, hn, hm, by simpa using hs, by rw [Array.toList_setIfInBounds, List.take_set, ht]⟩⟩
theorem ownFree {w : World} {e : TypeId} {size g n cap : Nat} {xs : List Value} (h : w.ownsRow 0 e size (.slice (some ⟨g, 0, none⟩) n cap) n xs) (i : Nat) : w.frozen? ⟨g, i, none⟩ = false := by
  obtain ⟨hl, h1 | ⟨g', cap', cur, e1, hb, hg, hn, hm, hs, ht⟩⟩ := h
  · exact absurd h1.1 (by simp)
  · obtain ⟨rfl, rfl⟩ : g = g' ∧ cap = cap' := by simpa using e1
    have hH : Has w g cur e := hg
    exact hH.free i
theorem itCells_set : ∀ (l : List Itm) (i : Nat) {x : Itm} (v : ByteArray), l[i]? = some x → itCells (l.set i ⟨x.h, x.K, v⟩) = (itCells l).set (i * 3 + 2) (.string v)
  | [], i, x, v, h => by simp at h
  | f :: r, 0, x, v, h => by
    obtain rfl : f = x := by simpa using h
    rfl
  | f :: r, i + 1, x, v, h => by
    have ih := itCells_set r i v (by simpa using h)
    have e : (i + 1) * 3 + 2 = (i * 3 + 2) + 3 := by omega
    rw [e, List.set_cons_succ]
    simp only [itCells, ih, List.cons_append, List.nil_append, List.set_cons_succ]
theorem OwnI.setV {w : World} {g cap : Nat} {l : List Itm} (h : OwnI w (.slice (some ⟨g, 0, none⟩) l.length cap) l) {i : Nat} {x : Itm} (hx : l[i]? = some x) (v : ByteArray) : OwnI (w.setCell ⟨g, i * 3 + 2, none⟩ (.string v)) (.slice (some ⟨g, 0, none⟩) l.length cap) (l.set i ⟨x.h, x.K, v⟩) := by
  have hi := (List.getElem?_eq_some_iff.mp hx).1
  unfold OwnI
  rw [itCells_set l i v hx, List.length_set]
  exact browset h (by omega) _
/-- One item of a key alone. -/
theorem GR.alone {S : Vu} {T : Nat → Bool} {its : List Itm} (g : GR S T its) {i : Nat} {x : Itm} (hx : its[i]? = some x) : woI (x.h : Int) x.K false its = its.take i ++ its.drop (i + 1) := by
  obtain ⟨hi, rfl⟩ := List.getElem?_eq_some_iff.mp hx
  have hm : its[i] ∈ its := List.getElem_mem hi
  obtain ⟨h8, hin⟩ := g.mem.mp hm
  generalize hxe : its[i] = x at *
  cases hS : S x.h with
  | none => rw [hS] at hin; cases hin
  | some l =>
    rw [hS] at hin
    have hin : (x.K, x.V) ∈ l := hin
    have hs := g.ok.srt _ _ hS
    have hsp : its = its.take i ++ x :: its.drop (i + 1) := by
      rw [← hxe, List.getElem_cons_drop, List.take_append_drop]
    have gd := g.delete h8 x.K hS
    have l1 := g.pm.length_eq
    have l2 := gd.pm.length_eq
    obtain ⟨A, B, f1, _, _, f2⟩ := flat_upd S h8
    have f3 := f2 (some (delL x.K l))
    rw [f1] at l1
    rw [f3] at l2
    obtain ⟨j, hj⟩ := List.getElem?_of_mem hin
    have hdl : (delL x.K l).length + 1 = l.length := by
      have hjl := (List.getElem?_eq_some_iff.mp hj).1
      rw [delL_at hs hj rfl, List.length_eraseIdx_of_lt hjl]
      omega
    rw [hS] at l1
    simp only [List.length_append, tagI, List.length_map, Option.getD_some] at l1 l2
    have hw : woI (x.h : Int) x.K false its = woI (x.h : Int) x.K false (its.take i) ++ woI (x.h : Int) x.K false (its.drop (i + 1)) := by
      conv => lhs; rw [hsp]
      unfold woI
      rw [List.filter_append, List.filter_cons]
      simp [goes]
    have la : (woI (x.h : Int) x.K false (its.take i)).length ≤ (its.take i).length := List.length_filter_le _ _
    have lb : (woI (x.h : Int) x.K false (its.drop (i + 1))).length ≤ (its.drop (i + 1)).length := List.length_filter_le _ _
    have lc : its.length = (its.take i).length + (its.drop (i + 1)).length + 1 := by
      conv => lhs; rw [hsp]
      simp only [List.length_append, List.length_cons]
      omega
    have ld := congrArg List.length hw
    rw [List.length_append] at ld
    rw [hw]
    have ea : woI (x.h : Int) x.K false (its.take i) = its.take i := by
      unfold woI
      apply List.Sublist.eq_of_length (List.filter_sublist)
      show (woI (x.h : Int) x.K false (its.take i)).length = _
      omega
    have eb : woI (x.h : Int) x.K false (its.drop (i + 1)) = its.drop (i + 1) := by
      unfold woI
      apply List.Sublist.eq_of_length (List.filter_sublist)
      show (woI (x.h : Int) x.K false (its.drop (i + 1))).length = _
      omega
    rw [ea, eb]
theorem GR.setV {S : Vu} {T : Nat → Bool} {its : List Itm} (g : GR S T its) {i : Nat} {x : Itm} (hx : its[i]? = some x) (v : ByteArray) {l : List KV} (hl : S x.h = some l) (h64 : its.length ≤ 64) : GR (updV S x.h (some (putL x.K v l))) T (its.set i ⟨x.h, x.K, v⟩) := by
  have hi := (List.getElem?_eq_some_iff.mp hx).1
  have h8 := (g.mem.mp (List.mem_of_getElem? hx)).1
  refine g.insert h8 x.K v hl ?_ (by rw [List.length_set]; exact h64)
  rw [g.alone hx, List.set_eq_take_append_cons_drop, if_pos hi]
  exact List.perm_middle
theorem GR.addV {S : Vu} {T : Nat → Bool} {its : List Itm} (g : GR S T its) {i : Nat} (hi : i < 8) (k v : ByteArray) {l : List KV} (hl : S i = some l) (hn : ∀ x ∈ its, ¬ ((x.h : Int) = (i : Int) ∧ x.K = k)) (h64 : its.length < 64) : GR (updV S i (some (putL k v l))) T (its ++ [⟨i, k, v⟩]) := by
  refine g.insert hi k v hl ?_ (by rw [List.length_append]; simp; omega)
  rw [woI_none hn]
  exact List.perm_append_singleton _ _
section
variable {lo : Nat} {w w' : World} {kb : Nat} {q : Gnd} {op : Bool} {S C P : Vu} {n b v : Gho} {N : Int}
theorem KK.setV (h : KK lo w kb q op C P n b v N) (hq : ∀ k, q.A k → k < w.heap.size) {ib cap i : Nat} {x : Itm} (hiv : n.iv = .slice (some ⟨ib, 0, none⟩) n.its.length cap) (hx : n.its[i]? = some x) (u : ByteArray) :
    KK lo (w.setCell ⟨ib, i * 3 + 2, none⟩ (.string u)) kb q op C P ⟨n.g, n.tb, n.iv, n.T, n.its.set i ⟨x.h, x.K, u⟩⟩ b v N ∧ Only (fun k => k = ib) w (w.setCell ⟨ib, i * 3 + 2, none⟩ (.string u)) := by
  have ho : Only (fun k => k = ib) w (w.setCell ⟨ib, i * 3 + 2, none⟩ (.string u)) := only1 _ _
  have hob : n.iv.ownBlock = some ib := by rw [hiv]; rfl
  have G : GhAt w n.g n.tb n.iv n.T n.its := h.gn
  have own := G.own
  rw [hiv] at own
  refine ⟨h.now rfl ?_ (fun k hk => .inl hk) hq ho (fun k e => by rw [e]; exact .inr (.inr hob)) ?_, ho⟩
  · refine ⟨G.has.keep ho (fun e => ownsRow_ne G.own G.has (by decide) ib hob e.symm), G.tr.keep ho (fun e => G.tbO (by rw [hob, e])), ?_, by rw [List.length_set]; exact G.len⟩
    rw [hiv]
    exact own.setV hx u
  · have := h.kp.lt
    have := h.dk.2
    omega
theorem KK.push {w1 w3 : World} (K : KK lo w1 kb q op C P n b v N) (hq : ∀ k, q.A k → k < w1.heap.size) {ia : Option Addr} {icap gg cap3 : Nat} (hiv : n.iv = .slice ia n.its.length icap) (x : Itm) {hx : Int} (hxe : (x.h : Int) = hx)
    (hown1 : w3.ownsRow 0 72 3 (.slice (some ⟨gg, 0, none⟩) (n.its.length + 1) cap3) (n.its.length + 1) (itCells n.its ++ [.int .i64 hx, .string x.K, .string x.V]))
    (hgrow : (w1.alloc (.cells #[.int .i64 hx, .string x.K, .string x.V] 72)).drew.grownBy w3 (Value.slice ia n.its.length icap).ownBlock) (hat : (Value.slice ia n.its.length icap).ownBlock = some gg ∨ gg = w1.heap.size + 1) (h64 : n.its.length < 64) :
    KK lo (w3.setCell ⟨n.g, 1, none⟩ (.slice (some ⟨gg, 0, none⟩) (n.its.length + 1) cap3)) kb q op C P ⟨n.g, n.tb, .slice (some ⟨gg, 0, none⟩) (n.its.length + 1) cap3, n.T, n.its ++ [x]⟩ b v N ∧ Only (fun y => n.F y) w1 (w3.setCell ⟨n.g, 1, none⟩ (.slice (some ⟨gg, 0, none⟩) (n.its.length + 1) cap3)) := by
  subst hxe
  have G1 : GhAt w1 n.g n.tb n.iv n.T n.its := K.gn
  have hobn : ∀ z, (Value.slice ia n.its.length icap).ownBlock = some z → n.F z := fun z hz' => .inr (.inr (by rw [hiv]; exact hz'))
  have own1 : w1.ownsRow 0 72 3 (.slice ia n.its.length icap) n.its.length (itCells n.its) := by
    have := G1.own
    rw [hiv] at this
    exact this
  have hne1 : (Value.slice ia n.its.length icap).ownBlock ≠ some n.g := fun e => by
    exact ownsRow_ne own1 G1.has (by decide) _ e rfl
  have hne3 : (Value.slice ia n.its.length icap).ownBlock ≠ some n.tb := fun e => G1.tbO (by rw [hiv]; exact e)
  have oG : Only (fun y => (Value.slice ia n.its.length icap).ownBlock = some y) w1 w3 := ((Only.refl (fun y => (Value.slice ia n.its.length icap).ownBlock = some y) w1).alloc _).drew.grown hgrow (fun y hy _ => hy)
  have o3 := only1 (w := w3) (p := n.g) 1 (.slice (some ⟨gg, 0, none⟩) (n.its.length + 1) cap3)
  have lg : n.g < w1.heap.size := G1.has.lt
  have ntg : n.tb ≠ n.g := G1.tr.ne G1.has (by decide)
  have oA : Only (fun y => n.F y) w1 (w3.setCell ⟨n.g, 1, none⟩ (.slice (some ⟨gg, 0, none⟩) (n.its.length + 1) cap3)) := (oG.mono (fun y _ hy => hobn y hy)).trans o3 (fun y _ e => by rw [e]; exact .inl rfl)
  refine ⟨K.now rfl ⟨(G1.has.keep oG hne1).setCell 1 _, (G1.tr.keep oG hne3).keep o3 ntg, ?_, by rw [List.length_append]; simp; omega⟩ (fun k hk => ?_) hq oA (fun k hk => hk) ?_, oA⟩
  · unfold OwnI
    rw [itCells_snoc, List.length_append]
    refine ownsRow_keep hown1 o3 (fun y hy e => ?_)
    simp [Value.ownBlock] at hy
    subst hy
    rcases hat with h | h
    · exact hne1 (e ▸ h)
    · omega
  · rcases hk with c | c | c
    · exact .inl (.inl c)
    · exact .inl (.inr (.inl c))
    · simp [Value.ownBlock] at c
      subst c
      rcases hat with h | h
      · exact .inl (hobn _ h)
      · exact .inr (by omega)
  · have := K.kp.lt
    have := K.dk.2
    omega
set_option maxRecDepth 100000 in
set_option maxHeartbeats 4000000 in
theorem putg_any (J : KJ lo w kb q op S C P n b v N) (h : Int) (k u : ByteArray) : Calls Tryz.prog 46 #[.pointer (some ⟨kb, 0, none⟩), .int .i64 h, .string k, .string u] w fun e w' => e = .returned (.bool true) ∧ KP lo w kb q P v N w' := by
  have c2 := J.k.c2
  cases op with
  | false =>
    have C1 := hide (vinsert_shut J.fv h k u)
    go_enter Tryz.func46, Tryz.ntmps46
    go_wp2_with fail
    refine (unhide C1).mono ?_
    rintro e w1 ⟨rfl, A1, o1⟩
    have J1 := J.forest o1 A1
    have HP := hide (J1.same (J.oS o1))
    have c6 := J1.k.c6
    clear A1 o1 C1 J1
    go_wp2_with fail
    go_ret
    exact ⟨by rfl, unhide HP⟩
  | true =>
    have C1 := vinsert_open J.fv h k u
    cases hz : Vz S h with
    | none =>
      have hd : putS S h k u = (S, 7) := by unfold putS; rw [hz]
      rw [hd] at C1
      have C1 := hide C1
      go_enter Tryz.func46, Tryz.ntmps46
      go_wp2_with fail
      refine (unhide C1).mono ?_
      rintro e w1 ⟨rfl, A1, o1⟩
      have J1 := J.forest o1 A1
      have HP := hide (J1.same (J.oS o1))
      have c6 := J1.k.c6
      have c3 := J1.k.c3
      have CH := ghas_any J1.k.gn h
      rw [J1.rn.hasT, hz] at CH
      have CH := hide CH
      clear A1 o1 C1 J1 hd hz
      go_wp2_with fail
      refine (unhide CH).mono ?_
      rintro e w2 ⟨rfl, rfl⟩
      go_wp2_with fail
      go_ret
      exact ⟨by rfl, unhide HP⟩
    | some l =>
      have hL : Lz S h = l := by unfold Lz; rw [hz]; rfl
      obtain ⟨z0, z8, zi, zs⟩ := Vz_some hz
      by_cases hbig : 16 < k.size ∨ 16 < u.size
      · have hd : putS S h k u = (S, 8) := by unfold putS; rw [hz]; simp only; rw [if_pos hbig]
        rw [hd] at C1
        have C1 := hide C1
        go_enter Tryz.func46, Tryz.ntmps46
        go_wp2_with fail
        refine (unhide C1).mono ?_
        rintro e w1 ⟨rfl, A1, o1⟩
        have J1 := J.forest o1 A1
        have HP := hide (J1.same (J.oS o1))
        have c6 := J1.k.c6
        have c3 := J1.k.c3
        have CH := ghas_any J1.k.gn h
        rw [J1.rn.hasT, hz] at CH
        have CH := hide CH
        clear A1 o1 C1 J1 hd hz
        go_wp2_with fail
        refine (unhide CH).mono ?_
        rintro e w2 ⟨rfl, rfl⟩
        by_cases hk : 16 < k.size
        · have d1 : decide (16 < (k.size : Int)) = true := decide_eq_true (by omega)
          go_wp2_with fail
          go_ret
          exact ⟨by rfl, unhide HP⟩
        · have d1 : decide (16 < (k.size : Int)) = false := decide_eq_false (by omega)
          have d2 : decide (16 < (u.size : Int)) = true := decide_eq_true (by omega)
          go_wp2_with fail
          go_ret
          exact ⟨by rfl, unhide HP⟩
      · have d1 : decide (16 < (k.size : Int)) = false := decide_eq_false (by omega)
        have d2 : decide (16 < (u.size : Int)) = false := decide_eq_false (by omega)
        cases hg : getL k l with
        | some x =>
          have hd : putS S h k u = (updV S h.toNat (some (putL k u l)), 0) := by unfold putS; rw [hz]; simp only; rw [if_neg hbig, if_neg (by rw [hg]; simp)]
          rw [hd] at C1
          have C1 := hide C1
          go_enter Tryz.func46, Tryz.ntmps46
          go_wp2_with fail
          refine (unhide C1).mono ?_
          rintro e w1 ⟨rfl, A1, o1⟩
          have K1 := J.k.forest o1
          have c6 := K1.c6
          have c3 := K1.c3
          have CH := ghas_any K1.gn h
          rw [J.rn.hasT, hz] at CH
          have CH := hide CH
          have CA := hide (gat_any K1.gn h k)
          have HF := hide (And.intro A1 (J.oS o1))
          clear A1 o1 C1 hd hz
          go_wp2_with fail
          refine (unhide CH).mono ?_
          rintro e w2 ⟨rfl, rfl⟩
          go_wp2_with fail
          refine (unhide CA).mono ?_
          rintro e w2 ⟨r, rfl, R, rfl⟩
          have hr : ∃ (i : Nat) (y : Itm), n.its[i]? = some y ∧ r = i ∧ (y.h : Int) = h ∧ y.K = k := by
            rcases J.rn.at_ R with ⟨_, e⟩ | ⟨i, y, hy, e, h1, h2, _⟩
            · rw [hL, hg] at e; cases e
            · exact ⟨i, y, hy, e, h1, h2⟩
          obtain ⟨i, y, hy, rfl, hyh, hyk⟩ := hr
          have n0 : decide (0 ≤ (i : Int)) = true := decide_eq_true (by omega)
          obtain ⟨ia, icap, hiv⟩ := (show GhAt w1 n.g n.tb n.iv n.T n.its from K1.gn).own.shape
          have hown := (show GhAt w1 n.g n.tb n.iv n.T n.its from K1.gn).own
          rw [hiv] at hown
          obtain ⟨ib, rfl, e0, e1, e2⟩ := hown.at_ hy
          have hil := (List.getElem?_eq_some_iff.mp hy).1
          have hi64 : n.its.length ≤ 64 := (show GhAt w1 n.g n.tb n.iv n.T n.its from K1.gn).len
          have g1 := GhAt.c1 K1.gn
          rw [hiv] at g1
          have zf := ownFree hown (i * 3 + 2)
          have ilt : (i : Int) < (n.its.length : Int) := by omega
          have HH := hide (And.intro hiv (And.intro hy hil))
          clear R hown hiv hy hil
          go_upto_region 11 with fail
          have hob : n.iv.ownBlock = some ib := by rw [(unhide HH).1]; rfl
          obtain ⟨K2, o2⟩ := K1.setV (unhide HF).1.Alt (unhide HH).1 (unhide HH).2.1 u
          have hnT : ∀ z, q.A z → ¬ z = ib := fun z hz' e => (K1.dn z (by rw [e]; exact .inr (.inr hob))).1 hz'
          have A2 := K1.fvK (unhide HF).1 o2 hnT
          have O2 := hide ((unhide HF).2.trans o2 (fun z _ e => by rw [e]; exact (K1.dn ib (.inr (.inr hob))).2.2.2.2))
          have hyn : y.h = h.toNat := by omega
          have R2 := J.rn.setV (unhide HH).2.1 u (by rw [hyn]; exact zs) hi64
          rw [hyn, hyk] at R2
          rw [hyn, hyk] at K2
          have HP := hide (KJ.same (lo := lo) ⟨K2, A2, R2, fun c => (by cases c), J.cf⟩ (unhide O2))
          clear o2 c6 c3 g1 zf e0 e1 e2 HF K2 A2 R2 O2
          generalize w1.setCell ⟨ib, i * 3 + 2, none⟩ (.string u) = w2 at *
          go_wp2_with fail
          go_ret
          exact ⟨by rfl, unhide HP⟩
        | none =>
          by_cases hf : 64 ≤ (al8 S).length
          · have hd : putS S h k u = (S, 6) := by unfold putS; rw [hz]; simp only; rw [if_neg hbig, if_pos ⟨hg, hf⟩]
            rw [hd] at C1
            have C1 := hide C1
            go_enter Tryz.func46, Tryz.ntmps46
            go_wp2_with fail
            refine (unhide C1).mono ?_
            rintro e w1 ⟨rfl, A1, o1⟩
            have J1 := J.forest o1 A1
            have HP := hide (J1.same (J.oS o1))
            have c6 := J1.k.c6
            have c3 := J1.k.c3
            have CH := ghas_any J1.k.gn h
            rw [J1.rn.hasT, hz] at CH
            have CH := hide CH
            have CA := hide (gat_any J1.k.gn h k)
            have hlen := J1.rn.len
            obtain ⟨ia, icap, hiv⟩ := (show GhAt w1 n.g n.tb n.iv n.T n.its from J1.k.gn).own.shape
            have g1 := GhAt.c1 J1.k.gn
            rw [hiv] at g1
            clear A1 o1 C1 hd hz hiv
            go_wp2_with fail
            refine (unhide CH).mono ?_
            rintro e w2 ⟨rfl, rfl⟩
            go_wp2_with fail
            refine (unhide CA).mono ?_
            rintro e w2 ⟨r, rfl, R, rfl⟩
            have hr : r = -1 := by
              rcases J1.rn.at_ R with ⟨e, _⟩ | ⟨i, y, _, _, _, _, e⟩
              · exact e
              · rw [hL, hg] at e; cases e
            subst hr
            have n0 : decide (64 ≤ (n.its.length : Int)) = true := decide_eq_true (by omega)
            clear R hlen
            go_wp2_with fail
            go_ret
            exact ⟨by rfl, unhide HP⟩
          · have hd : putS S h k u = (updV S h.toNat (some (putL k u l)), 0) := by unfold putS; rw [hz]; simp only; rw [if_neg hbig, if_neg (fun c => hf c.2)]
            rw [hd] at C1
            have C1 := hide C1
            obtain ⟨i0, hi0, hz0, hz1, hz2⟩ := info_parts Tryz.infoItm
            go_enter Tryz.func46, Tryz.ntmps46
            go_wp2_with fail
            refine (unhide C1).mono ?_
            rintro e w1 ⟨rfl, A1, o1⟩
            have K1 := J.k.forest o1
            have c6 := K1.c6
            have c3 := K1.c3
            have CH := ghas_any K1.gn h
            rw [J.rn.hasT, hz] at CH
            have CH := hide CH
            have CA := hide (gat_any K1.gn h k)
            have HF := hide (And.intro A1 (J.oS o1))
            have hlen := J.rn.len
            have G1 : GhAt w1 n.g n.tb n.iv n.T n.its := K1.gn
            obtain ⟨ia, icap, hiv⟩ := G1.own.shape
            have g1 := G1.c1
            rw [hiv] at g1
            clear A1 o1 C1 hd hz
            go_wp2_with fail
            refine (unhide CH).mono ?_
            rintro e w2 ⟨rfl, rfl⟩
            go_wp2_with fail
            refine (unhide CA).mono ?_
            rintro e w2 ⟨r, rfl, R, rfl⟩
            have hr : r = -1 ∧ ∀ x ∈ n.its, ¬ ((x.h : Int) = h ∧ x.K = k) := by
              rcases R with ⟨e, R⟩ | ⟨i, y, hy, e, h1, h2⟩
              · exact ⟨e, R⟩
              · exfalso
                rcases J.rn.at_ (.inr ⟨i, y, hy, e, h1, h2⟩) with ⟨e2, _⟩ | ⟨_, _, _, _, _, _, e⟩
                · omega
                · rw [hL, hg] at e; cases e
            obtain ⟨rfl, hno⟩ := hr
            have n0 : decide (64 ≤ (n.its.length : Int)) = false := decide_eq_false (by omega)
            have h64 : n.its.length < 64 := by omega
            clear R hlen
            have own1 : w1.ownsRow 0 72 3 (.slice ia n.its.length icap) n.its.length (itCells n.its) := by
              have := G1.own
              rw [hiv] at this
              exact this
            have hobn : ∀ z, (Value.slice ia n.its.length icap).ownBlock = some z → n.F z := fun z hz' => .inr (.inr (by rw [hiv]; exact hz'))
            have hne1 : (Value.slice ia n.its.length icap).ownBlock ≠ some n.g := fun e => by
              exact ownsRow_ne own1 G1.has (by decide) _ e rfl
            have hne2 : (Value.slice ia n.its.length icap).ownBlock ≠ some kb := fun e => (K1.dn kb (hobn kb e)).2.1 rfl
            have hne3 : (Value.slice ia n.its.length icap).ownBlock ≠ some n.tb := fun e => G1.tbO (by rw [hiv]; exact e)
            have lgW : n.g < w1.heap.size := G1.has.lt
            have lkW : kb < w1.heap.size := K1.kp.lt
            have gz := G1.has.free 1
            have A1 := (G1.has.alloc (.cells #[.int .i64 h, .string k, .string u] 72)).drew
            have A2 := (K1.kp.alloc (.cells #[.int .i64 h, .string k, .string u] 72)).drew
            have x1 : (w1.alloc (.cells #[.int .i64 h, .string k, .string u] 72)).drew.cell? ⟨n.g, 1, none⟩ = some (.slice ia n.its.length icap) := by rw [A1.cell, hiv]; rfl
            have x1f := A1.free 1
            have x2 : (w1.alloc (.cells #[.int .i64 h, .string k, .string u] 72)).drew.cell? ⟨kb, 3, none⟩ = some (.pointer (some ⟨n.g, 0, none⟩)) := by rw [A2.cell]; rfl
            have l5 : n.its.length + 1 ≤ maxLen := by unfold maxLen; omega
            have hh : ((h.toNat : Nat) : Int) = h := by omega
            have R2 := J.rn.addV zi k u zs (by rw [hh]; exact hno) h64
            have hnA : ∀ y, q.A y → ¬ n.F y := fun y hy e => (K1.dn y e).1 hy
            have HPP := hide (fun gg cap3 (w3 : World) h1 h2 h3 => (show _ from by
              obtain ⟨K2, o2⟩ := K1.push (w3 := w3) (gg := gg) (cap3 := cap3) (unhide HF).1.Alt hiv ⟨h.toNat, k, u⟩ hh h1 h2 h3 h64
              exact KJ.same (lo := lo) ⟨K2, K1.fvK (unhide HF).1 o2 hnA, R2, fun c => (by cases c), J.cf⟩ ((unhide HF).2.trans o2 (fun z _ e => (K1.dn z e).2.2.2.2)) : KP lo w kb q P v N (w3.setCell ⟨n.g, 1, none⟩ (.slice (some ⟨gg, 0, none⟩) (n.its.length + 1) cap3))))
            clear G1 K1 A1 A2 hno CH CA hiv R2 hnA hh
            go_upto_region 14 with fail
            go_region_law
              ((refine step_append_lies _ (by rfl) _ _ _ (by rfl) 0 72 i0 _ 3 40 Tryz.underlying63 hi0 hz0 hz1 hz2 rfl (by omega) (.slice ia n.its.length icap) n.its.length (itCells n.its) (by rfl) ((own1.alloc _).drew) ⟨w1.heap.size, 0, none⟩ 1 1 [.int .i64 h, .string k, .string u] (by rfl) (by rfl) (World.news_of_block (cs := #[.int .i64 h, .string k, .string u]) (t := 72) (fr := (0, 0)) (heap_alloc_new w1 _)) (by simp [Value.oneCell']) (by omega) l5 (by omega) (by simp) (w1.heap.size + 1) (by simp) ?_; intro gg cap3 w3 hown1 hgrow hat hlt3; have y3 := (hgrow.cell_far ⟨n.g, 1, none⟩ (by simp; omega) (Ne.symm hne1)).trans x1; have yz := (hgrow.frozen_far ⟨n.g, 1, none⟩ (by simp; omega) (Ne.symm hne1)).trans x1f; have y2 := (hgrow.cell_far ⟨kb, 3, none⟩ (by simp; omega) (Ne.symm hne2)).trans x2))
            all_goals
              have HP := hide (unhide HPP gg cap3 w3 hown1 hgrow hat)
              clear hown1 hgrow hat y3 yz y2
              go_wp2_with fail
              go_ret
              exact ⟨by rfl, unhide HP⟩
end
end Go.Proofs.Qxb6500410aGreat
