/-
  OWN WORK. THE TABLE LAW's MODEL: CreateTable.
-/
import Derived.Test.Qxb6500412aGreatMM12
import Derived.Deep.RegionLaw
import Derived.Deep.AppendLies
import Derived.Deep.DeepCutAuto
namespace Go.Proofs.Qxb6500412aGreat
open Go.RowKit Go.PlainAid
set_option linter.unusedSimpArgs false
set_option linter.unusedVariables false

/-- The tables in another order. -/
theorem ML.perm {w wF : World} {l l' : List GE} {v v' : Value} (h : ML w v l) (hp : l'.Perm l) (own : wF.ownsRow 0 249 5 v' l'.length (gcs l')) {B : Nat → Prop} (oo : Only B w wF) (hB : ∀ k, B k → ∀ e ∈ l, ¬ GEm e k ∧ ¬ GEi e k) : ML wF v' l' :=
  ⟨own, fun e he => (h.el e (hp.mem_iff.mp he)).keep oo (fun k hk hb => (hB k hb e (hp.mem_iff.mp he)).1 hk) (fun k hk hb => (hB k hb e (hp.mem_iff.mp he)).2 hk), ((hp.map _).nodup_iff).mpr h.nd, by rw [hp.length_eq]; exact h.len, (hp.pairwise_iff (fun h1 k a b => h1 k b a)).mpr h.sep⟩
/-- A table more. -/
theorem ML.pushTab {w : World} {l : List GE} {v : Value} (h : ML w v l) {w0 w3 : World} {gg cap3 n : Nat} {nm : ByteArray} {cvv : Value} {cols : List Cl} {pk : Nat} (o0 : Only (fun _ => False) w w0)
    (hown : w3.ownsRow 0 249 5 (.slice (some ⟨gg, 0, none⟩) n cap3) n (gcs l ++ [.string nm, cvv, .int .i64 (pk : Int), .int .i64 (-1), .slice none 0 0])) (hn : n = l.length + 1) (hgrow : w0.grownBy w3 v.ownBlock)
    (C : OwnC w cvv cols) (ok : GOk ⟨nm, cols, pk, none, []⟩) (hnew : ∀ e ∈ l, e.t.nm ≠ nm) (hlen : l.length < 3) :
    ML w3 (.slice (some ⟨gg, 0, none⟩) n cap3) (l ++ [⟨⟨nm, cols, pk, none, []⟩, cvv, .slice none 0 0, []⟩]) ∧ Only (fun k => v.ownBlock = some k) w w3 := by
  have oo : Only (fun k => v.ownBlock = some k) w w3 := (o0.mono (fun _ _ e => e.elim)).grown hgrow (fun k hk _ => hk)
  have vne : ∀ k, v.ownBlock = some k → ∃ c, Has w k c 249 := fun k hk => ownsRow_has h.own hk
  have E' : ∀ e ∈ l, GEl w3 e := fun e he => by
    have E := h.el e he
    refine E.keep oo (fun k hk hv => ?_) (fun k hk hv => ?_)
    · obtain ⟨c, hc⟩ := vne k hv
      exact ownsRow_ne E.rs hc (by decide) k hk rfl
    · obtain ⟨c, hc⟩ := vne k hv
      exact E.imm hk hc (by decide) (by decide)
  refine ⟨⟨?_, fun e he => ?_, ?_, by simp; omega, ?_⟩, oo⟩
  · rw [gcs_app, List.length_append]
    subst hn
    exact hown
  · rcases List.mem_append.mp he with he | he
    · exact E' e he
    · obtain rfl : e = _ := by simpa using he
      refine ⟨ok, C.keep oo (fun k hk hv => ?_), World.ownsRow_nil _ _ _ _, rfl, fun j u r hu => by simp at hu⟩
      obtain ⟨c, hc⟩ := vne k hv
      exact ownsRow_ne C hc (by decide) k hk rfl
  · rw [List.map_append, List.nodup_append]
    refine ⟨h.nd, by simp, fun a ha b hb => ?_⟩
    obtain ⟨e, he, rfl⟩ := List.mem_map.mp ha
    obtain rfl : b = nm := by simpa using hb
    exact hnew e he
  · rw [List.pairwise_append]
    refine ⟨h.sep, List.pairwise_singleton _ _, fun a ha b hb k _ hk => ?_⟩
    obtain rfl : b = _ := by simpa using hb
    unfold GEm at hk
    simp [Value.ownBlock] at hk
section
variable {ty : TypeId} {w w' : World} {dk o : Nat} {cs : Array Value} {v : Value} {l : List GE} {D : Db}
/-- What CreateTable's shift leaves in the end. -/
theorem MdP.create {w3 w5 w6 wF : World} {nm : ByteArray} {cols : List Cl} {pk i n tg cap : Nat} {cvv : Value} (M : MDc ty w dk o cs v l D) (o3 : Only (fun _ => False) w w3) (C : OwnC w3 cvv cols) (hz : ∀ k, cvv.ownBlock = some k → w.heap.size ≤ k) (o5 : Only (fun _ => False) w3 w5)
    (hown : w6.ownsRow 0 249 5 (.slice (some ⟨tg, 0, none⟩) n cap) n (gcs l ++ [.string nm, cvv, .int .i64 (pk : Int), .int .i64 (-1), .slice none 0 0])) (hn : n = l.length + 1) (hgrow : w5.grownBy w6 v.ownBlock) (hat : v.ownBlock = some tg ∨ w.heap.size ≤ tg)
    (gn : gdN nm) (gc : GdC cols (pk : Int)) (hno : ∀ e ∈ l, e.t.nm ≠ nm) (h3 : l.length < 3) (hi : i ≤ l.length) (hbef : ∀ j x, j < i → l[j]? = some x → lt x.t.nm nm = true) (haft : ∀ x, l[i]? = some x → lt x.t.nm nm = false)
    (oF : Only (fun k => k = tg) (w6.setCell ⟨dk, o, none⟩ (.slice (some ⟨tg, 0, none⟩) n cap)) wF)
    (hF : wF.ownsRow 0 249 5 (.slice (some ⟨tg, 0, none⟩) n cap) n (gcs (l.take i ++ ⟨⟨nm, cols, pk, none, []⟩, cvv, .slice none 0 0, []⟩ :: l.drop i))) :
    MdP ty w dk o cs v l (crtD D nm cols (pk : Int)).1 (crtD D nm cols (pk : Int)).2 (.returned (.int .i64 0)) wF := by
  have tok : TbOk ⟨nm, cols, pk, none, []⟩ := ⟨gn, gc, fun c hc => (by simp at hc), fun r hr => (by simp at hr), List.Pairwise.nil, Nat.zero_le _⟩
  have M3 := M.quiet o3
  obtain ⟨G6, o36⟩ := M3.ml.pushTab (pk := pk) o5 hown hn hgrow C ((GT.refl _).ok tok) hno h3
  have vdk : ∀ k, v.ownBlock = some k → k ≠ dk := fun k hk => M.dkne k (.inl (.inl hk))
  have H6 := M3.has.keep o36 (fun e => vdk dk e rfl)
  have od : Only (fun k => k = dk) w6 (w6.setCell ⟨dk, o, none⟩ (.slice (some ⟨tg, 0, none⟩) n cap)) := only1 _ _
  have ne6 := G6.neT H6 M3.sto.1 M3.sto.2.1 M3.sto.2.2.1 M3.sto.2.2.2
  have htd : tg ≠ dk := ne6 tg (.inl (.inl rfl))
  have HF := (H6.setCell o (.slice (some ⟨tg, 0, none⟩) n cap)).keep oF (fun e => htd e.symm)
  have o6F : Only (fun k => k = dk ∨ k = tg) w6 wF := (od.mono (fun k _ e => Or.inl e)).trans oF (fun k _ e => .inr e)
  have hp : (l.take i ++ ⟨⟨nm, cols, pk, none, []⟩, cvv, .slice none 0 0, []⟩ :: l.drop i : List GE).Perm (l ++ [⟨⟨nm, cols, pk, none, []⟩, cvv, .slice none 0 0, []⟩]) := by
    refine List.perm_middle.trans ?_
    rw [List.take_append_drop]
    exact (List.perm_append_singleton _ l).symm
  have hlen : (l.take i ++ ⟨⟨nm, cols, pk, none, []⟩, cvv, .slice none 0 0, []⟩ :: l.drop i : List GE).length = n := by rw [rmid_len hi, hn]
  have GF := G6.perm hp (v' := .slice (some ⟨tg, 0, none⟩) n cap) (by rw [hlen]; exact hF) o6F (fun k hk e he => by
    obtain ⟨q, hq⟩ := List.getElem?_of_mem he
    rcases hk with hk | hk
    · exact ⟨fun h => ne6 k (.inl (.inr ⟨e, he, h⟩)) hk, fun h => ne6 k (.inr ⟨e, he, h⟩) hk⟩
    · have hl6 : (l ++ [⟨⟨nm, cols, pk, none, []⟩, cvv, .slice none 0 0, []⟩] : List GE).length = n := by rw [List.length_append, hn]; rfl
      have G6' := G6
      rw [← hl6] at G6'
      exact ⟨fun h => G6'.bne hq k (.inl h) hk, fun h => G6'.bne hq k (.inr h) hk⟩)
  have hfd : findD D nm = none := by
    unfold findD
    rw [List.find?_eq_none]
    intro t ht
    rw [← M.tt] at ht
    obtain ⟨e, he, rfl⟩ := List.mem_map.mp ht
    simpa using hno e he
  have hDl : D.length = l.length := by rw [← M.tt, List.length_map]
  have hput : putT ⟨nm, cols, pk, none, []⟩ D = D.take i ++ ⟨nm, cols, pk, none, []⟩ :: D.drop i := putBy_at (fun t : Tb => t.nm) _ D i (by omega) (fun j x hj hx => by
      rw [← M.tt, List.getElem?_map] at hx
      obtain ⟨e, he, rfl⟩ := Option.map_eq_some_iff.mp hx
      exact hbef j e hj he) (fun x hx => by
      rw [← M.tt, List.getElem?_map] at hx
      obtain ⟨e, he, rfl⟩ := Option.map_eq_some_iff.mp hx
      exact ⟨haft e he, hno e (List.mem_of_getElem? he)⟩)
  have hcr : crtD D nm cols (pk : Int) = (putT ⟨nm, cols, pk, none, []⟩ D, 0) := by
    unfold crtD
    rw [if_neg (by simpa using gn), if_neg (by simpa using gc), hfd]
    simp only [if_neg (show ¬ 3 ≤ D.length by omega), Int.toNat_natCast]
  have s3 := o3.size
  rw [hcr]
  refine ⟨_, _, rfl, ⟨M3.sto, HF, ?_, GF, ?_, M.ok.put tok ?_⟩, fun k hk => ?_, fun k hk => ?_, ?_⟩
  · rw [Array.getElem?_setIfInBounds, if_pos rfl, if_pos (Array.getElem?_eq_some_iff.mp M.at_).1]
  · rw [hput, List.map_append, List.map_cons, List.map_take, List.map_drop, M.tt]
  · rw [hput, rmid_len (by omega)]
    omega
  · rcases hk with hk | ⟨x, hx, hk⟩
    · obtain rfl : tg = k := by simpa [Value.ownBlock] using hk
      rcases hat with c | c
      · exact .inl (.inl c)
      · exact .inr c
    · rcases rmid_mem hx with hx | rfl
      · exact .inl (.inr ⟨x, hx, hk⟩)
      · unfold GEm at hk
        simp [Value.ownBlock] at hk
  · obtain ⟨x, hx, hk⟩ := hk
    rcases rmid_mem hx with hx | rfl
    · exact .inl ⟨x, hx, hk⟩
    · rcases hk with hk | ⟨u, hu, _⟩
      · exact .inr (hz k hk)
      · simp at hu
  · refine ((o3.mono (fun _ _ e => e.elim)).trans o36 (fun k _ hk => Or.inr (.inl hk))).trans o6F (fun k hkw hk => ?_)
    rcases hk with hk | hk
    · exact .inl hk
    · subst hk
      rcases hat with c | c
      · exact .inr (.inl c)
      · omega
set_option maxRecDepth 100000 in
set_option maxHeartbeats 4000000 in
theorem mdbCreate_any (M : MDc ty w dk o cs v l D) (nm : ByteArray) {cv : Value} {cols : List Cl} (C : OwnC w cv cols) (pk : Int) : Calls Tryz.prog 271 #[.pointer (some ⟨dk, o, none⟩), .string nm, cv, .int .i64 pk] w (MdP ty w dk o cs v l (crtD D nm cols pk).1 (crtD D nm cols pk).2) := by
  obtain ⟨i0, hi0, hz0, hz1, hz2⟩ := info_parts Tryz.infoYTab
  obtain ⟨D', zz, hDz⟩ : ∃ D' zz, crtD D nm cols pk = (D', zz) := ⟨_, _, rfl⟩
  rw [hDz]
  have HDZ := hide hDz
  obtain ⟨ua, uc, hus⟩ := C.shape
  have HM := hide (And.intro M C)
  have CN := hide (eGoodName_any nm w)
  have CG := eGoodCols_any C pk
  obtain ⟨cn, hcn⟩ : ∃ cn, cols.length = cn := ⟨_, rfl⟩
  rw [hcn] at hus
  have HCN := hide hcn
  rw [hus] at CG ⊢
  have HUS := hide hus
  have CG := hide CG
  clear M hDz C hus hcn
  have HS := hide (fun (z : Int) (hz : crtD D nm cols pk = (D, z)) (w9 : World) (o9 : Only (fun _ => False) w w9) => show MdP ty w dk o cs v l D' zz (.returned (.int .i64 z)) w9 from by
    have h := unhide HDZ
    rw [hz] at h
    cases h
    exact MdP.same (unhide HM).1 o9)
  go_enter Tryz.func271, Tryz.ntmps271
  by_cases gn : gdN nm
  rotate_left
  · have dn : decide (gdN nm) = false := decide_eq_false gn
    rw [dn] at CN
    have HR := hide (unhide HS 12 (by unfold crtD; rw [if_pos gn]) w (Only.refl _ _))
    clear dn
    go_wp2_with fail
    refine (unhide CN).mono ?_
    rintro x w2' ⟨rfl, rfl⟩
    clear gn
    go_wp2_with fail
    go_ret
    exact unhide HR
  have dn : decide (gdN nm) = true := decide_eq_true gn
  rw [dn] at CN
  go_wp2_with fail
  refine (unhide CN).mono ?_
  rintro x w2' ⟨rfl, rfl⟩
  clear CN dn
  by_cases gc : GdC cols pk
  rotate_left
  · have dc : decide (GdC cols pk) = false := decide_eq_false gc
    rw [dc] at CG
    clear dc
    go_wp2_with fail
    refine (unhide CG).mono ?_
    rintro x w3 ⟨rfl, o3⟩
    have HR := hide (unhide HS 13 (by unfold crtD; rw [if_neg (by simpa using gn), if_pos gc]) w3 o3)
    clear gn gc o3
    go_wp2_with fail
    go_ret
    exact unhide HR
  have dc : decide (GdC cols pk) = true := decide_eq_true gc
  rw [dc] at CG
  clear dc
  go_wp2_with fail
  refine (unhide CG).mono ?_
  rintro x w3 ⟨rfl, o3⟩
  have M3 := (unhide HM).1.quiet o3
  have C3 := (unhide HM).2.keep o3 (fun _ _ e => e)
  rw [unhide HUS] at C3
  have HM3 := hide (And.intro M3 (And.intro C3 o3))
  have CF := hide (mfind_any M3.db.c0 M3.db.ml nm)
  have c0 := M3.db.c0
  clear M3 C3 o3 CG
  have HGG := hide (And.intro gn gc)
  clear gn gc
  go_wp2_with fail
  refine (unhide CF).mono ?_
  rintro x w3' ⟨r, rfl, hr, rfl⟩
  clear CF
  by_cases r0 : 0 ≤ r
  · have dr : decide (r ≥ 0) = true := decide_eq_true r0
    have dr' : decide (0 ≤ r) = true := decide_eq_true r0
    obtain ⟨i, e, rfl, hi, hn, hf, hm⟩ := hr.myes (unhide HM).1.tt (unhide HM).1.ok r0
    have HR := hide (unhide HS 11 (by unfold crtD; rw [if_neg (by simpa using (unhide HGG).1), if_neg (by simpa using (unhide HGG).2), hf]) w3 (unhide HM3).2.2)
    clear hr r0 hi hn hf hm
    go_wp2_with fail
    go_ret
    exact unhide HR
  have dr : decide (r ≥ 0) = false := decide_eq_false r0
  have dr' : decide (0 ≤ r) = false := decide_eq_false r0
  have hfn : findD D nm = none := hr.mno (unhide HM).1.tt (unhide HM).1.ok (by omega)
  have hno : ∀ e ∈ l, e.t.nm ≠ nm := by
    rcases hr with ⟨_, h⟩ | ⟨i, x, _, rfl, _⟩
    · exact h
    · omega
  obtain ⟨ia, icap, hiv⟩ := (unhide HM).1.ml.shape
  have h3 := (unhide HM).1.ml.len
  have hDl : D.length = l.length := by rw [← (unhide HM).1.tt, List.length_map]
  obtain ⟨n, hN⟩ : ∃ n, l.length = n := ⟨_, rfl⟩
  rw [hiv, hN] at c0
  rw [hN] at h3 hDl hiv
  by_cases f3 : 3 ≤ n
  · have d3 : decide ((n : Int) ≥ 3) = true := decide_eq_true (by omega)
    have d3' : decide ((3 : Int) ≤ (n : Int)) = true := decide_eq_true (by omega)
    have HR := hide (unhide HS 6 (by unfold crtD; rw [if_neg (by simpa using (unhide HGG).1), if_neg (by simpa using (unhide HGG).2), hfn]; simp only [if_pos (show 3 ≤ D.length by omega)]) w3 (unhide HM3).2.2)
    clear hr r0 hiv hN f3 hfn hno hDl
    go_wp2_with fail
    go_ret
    exact unhide HR
  have d3 : decide ((n : Int) ≥ 3) = false := decide_eq_false (by omega)
  have d3' : decide ((3 : Int) ≤ (n : Int)) = false := decide_eq_false (by omega)
  obtain ⟨pn, hpn⟩ : ∃ pn : Nat, pk = pn := ⟨pk.toNat, by have := (unhide HGG).2.1.2.2.1; omega⟩
  subst hpn
  have CC := mcloneSchema_any (unhide HM3).2.1 (by have := (unhide HGG).2.1.2.1; omega) nm (pn : Int) (-1)
  unfold schA at CC
  rw [unhide HCN] at CC
  have CC := hide CC
  have HNO := hide (And.intro hno (And.intro hiv hN))
  have HF3 := hide f3
  clear hr r0 f3 hfn hno hDl hN hiv
  go_wp2_with fail
  refine (unhide CC).mono ?_
  rintro x w4 ⟨z, rfl, C4, hz, o34⟩
  have oT : Only (fun _ => False) w4 (w4.alloc (.cells #[.string nm, .slice (some ⟨z, 0, none⟩) cn cn, .int .i64 (pn : Int), .int .i64 (-1), .slice none 0 0] 249)) := (Only.refl _ _).alloc _
  have T5 : Has (w4.alloc (.cells #[.string nm, .slice (some ⟨z, 0, none⟩) cn cn, .int .i64 (pn : Int), .int .i64 (-1), .slice none 0 0] 249)) w4.heap.size #[.string nm, .slice (some ⟨z, 0, none⟩) cn cn, .int .i64 (pn : Int), .int .i64 (-1), .slice none 0 0] 249 := Has.new _ _ _
  have o35 := o34.trans oT (fun _ _ e => e)
  have HW5 := hide (And.intro (C4.keep oT (fun _ _ e => e)) (And.intro ((unhide HM3).2.2.trans o35 (fun _ _ e => e)) (And.intro T5 (Nat.le_trans (unhide HM3).2.2.size hz))))
  have c0 := cell_keep c0 o35 (fun e => e)
  have HO34 := hide o34
  clear C4 o34 oT T5 o35 CC hz
  go_upto_region 11 with fail
  generalize w4.alloc (.cells #[.string nm, .slice (some ⟨z, 0, none⟩) cn cn, .int .i64 (pn : Int), .int .i64 (-1), .slice none 0 0] 249) = w5 at *
  have HBT := hide (show w.heap.size ≤ w4.heap.size from Nat.le_trans (unhide HM3).2.2.size (unhide HO34).size)
  generalize w4.heap.size = bt at *
  have HM5 := hide ((unhide HM).1.quiet (unhide HW5).2.1)
  go_loopw [10] (fun iv wr => ∃ i : Nat, iv = .int .i64 i ∧ i ≤ n ∧ (∀ j x, j < i → l[j]? = some x → lt x.t.nm nm = true) ∧ w5 = wr) (fun iv _ => n - (intOf iv).toNat)
  case atStart => exact ⟨0, rfl, Nat.zero_le _, fun j x hj => (by omega), rfl⟩
  case round =>
    obtain ⟨i, rfl, hi, hbef, rfl⟩ := hrel
    have HB := hide hbef
    clear hbef
    go_upto_region 11 with fail
    go_cut [54] (fun bv wx => ∃ b : Bool, bv = .bool b ∧ w5 = wx ∧ (b = true → i < n ∧ ∀ x, l[i]? = some x → lt x.t.nm nm = true) ∧ (b = false → ∀ x, l[i]? = some x → lt x.t.nm nm = false))
    case first =>
      by_cases hin : i < n
      · have d1 : decide ((i : Int) < (n : Int)) = true := decide_eq_true (by omega)
        have d1p : (i : Int) < (n : Int) := by omega
        obtain ⟨x, hx⟩ := getE (l := l) (i := i) (by rw [(unhide HNO).2.2]; exact hin)
        obtain ⟨b, cp, hvx, P, _⟩ := (unhide HM5).ml.pt hx
        rw [(unhide HNO).2.2, (unhide HNO).2.1] at hvx
        simp only [Value.slice.injEq] at hvx
        obtain ⟨rfl, _, rfl⟩ := hvx
        have p0 := P.c0
        obtain ⟨bb, hbb⟩ : ∃ bb, lt x.t.nm nm = bb := ⟨_, rfl⟩
        have hb2 : Op.bytesLess x.t.nm.toList nm.toList = bb := hbb
        have HX := hide (And.intro hx hbb)
        clear hx hbb P
        generalize x.t.nm = xn at p0 hb2
        go_wp2_with fail
        go_meet
        refine ⟨bb, rfl, rfl, fun e => ⟨hin, fun y hy => ?_⟩, fun e y hy => ?_⟩
        · rw [(unhide HX).1] at hy
          cases hy
          rw [(unhide HX).2, e]
        · rw [(unhide HX).1] at hy
          cases hy
          rw [(unhide HX).2, e]
      · have d1 : decide ((i : Int) < (n : Int)) = false := decide_eq_false (by omega)
        have d1n : decide (i < n) = false := decide_eq_false hin
        go_wp2_with fail
        go_meet
        refine ⟨false, rfl, rfl, fun e => (by cases e), fun _ y hy => ?_⟩
        have := (List.getElem?_eq_some_iff.mp hy).1
        rw [(unhide HNO).2.2] at this
        omega
    case rest =>
    obtain ⟨b, rfl, rfl, hbt, hbf⟩ := hcut
    cases b with
    | true =>
      obtain ⟨hin, hlt⟩ := hbt rfl
      have HB2 := hide (show ∀ j x, j < i + 1 → l[j]? = some x → lt x.t.nm nm = true from fun j x hj hx => by
        by_cases c : j = i
        · subst c; exact hlt x hx
        · exact unhide HB j x (by omega) hx)
      clear hbt hbf hlt
      go_wp2_with fail
      go_roundw
      case rel => exact ⟨i + 1, by go_num, by omega, unhide HB2, by first | exact rfl | trivial⟩
      case measure => simp [intOf]; omega
    | false =>
      have HB2 := hide (hbf rfl)
      clear hbt hbf
      have T5 := (unhide HW5).2.2.1
      have b0 := T5.cell 0
      have b1 := T5.cell 1
      have b2 := T5.cell 2
      have b3 := T5.cell 3
      have b4 := T5.cell 4
      simp at b0 b1 b2 b3 b4
      have own1 : w5.ownsRow 0 249 5 (.slice ia n icap) n (gcs l) := by have := (unhide HM5).ml.own; rw [(unhide HNO).2.1, (unhide HNO).2.2] at this; exact this
      have hdl : dk < w5.heap.size := (unhide HM5).has.lt
      have hbl : bt < w5.heap.size := T5.lt
      have hne1 : (Value.slice ia n icap).ownBlock ≠ some dk := fun e => (unhide HM5).dkne dk (.inl (.inl (by rw [(unhide HNO).2.1]; exact e))) rfl
      have X1 := ((unhide HM5).has.alloc (.cells #[.string nm, .slice (some ⟨z, 0, none⟩) cn cn, .int .i64 (pn : Int), .int .i64 (-1), .slice none 0 0] 249)).drew
      have x1 : (w5.alloc (.cells #[.string nm, .slice (some ⟨z, 0, none⟩) cn cn, .int .i64 (pn : Int), .int .i64 (-1), .slice none 0 0] 249)).drew.cell? ⟨dk, o, none⟩ = some (.slice ia n icap) := by rw [X1.cell, (unhide HM5).at_, (unhide HNO).2.1]
      have x1f := X1.free o
      have l5 : n + 1 ≤ maxLen := by unfold maxLen; omega
      clear X1 T5
      go_upto_region 13 with fail
      go_cut [] (fun wx => ∃ (tg cap : Nat) (w6 : World) (ob : Obj), wx = w6.setCell ⟨dk, o, none⟩ (.slice (some ⟨tg, 0, none⟩) (n + 1) cap) ∧ w6.ownsRow 0 249 5 (.slice (some ⟨tg, 0, none⟩) (n + 1) cap) (n + 1) (gcs l ++ [.string nm, .slice (some ⟨z, 0, none⟩) cn cn, .int .i64 (pn : Int), .int .i64 (-1), .slice none 0 0]) ∧ (w5.alloc ob).drew.grownBy w6 (Value.slice ia n icap).ownBlock ∧ ((Value.slice ia n icap).ownBlock = some tg ∨ tg = w5.heap.size + 1))
      case first =>
        go_region_law
          ((refine step_append_lies _ (by rfl) _ _ _ (by rfl) 0 249 i0 _ 5 80 Tryz.underlying105 hi0 hz0 hz1 hz2 rfl (by omega) (.slice ia n icap) n (gcs l) (by rfl) ((own1.alloc _).drew) ⟨w5.heap.size, 0, none⟩ 1 1 [.string nm, .slice (some ⟨z, 0, none⟩) cn cn, .int .i64 (pn : Int), .int .i64 (-1), .slice none 0 0] (by rfl) (by rfl) (World.news_of_block (cs := #[.string nm, .slice (some ⟨z, 0, none⟩) cn cn, .int .i64 (pn : Int), .int .i64 (-1), .slice none 0 0]) (t := 249) (fr := (0, 0)) (heap_alloc_new w5 _)) (by simp [Value.oneCell']) (by omega) l5 (by omega) (by simp) (w5.heap.size + 1) (by simp) ?_; intro gg cap3 w4' hown1 hgrow hat hlt3; have y3 := (hgrow.cell_far ⟨dk, o, none⟩ (by simp; omega) (Ne.symm hne1)).trans x1; have yz := (hgrow.frozen_far ⟨dk, o, none⟩ (by simp; omega) (Ne.symm hne1)).trans x1f))
        all_goals
          have HP := hide (And.intro hown1 (And.intro hgrow hat))
          clear hown1 hgrow hat y3 yz
          go_wp2_with fail
          go_meet
          exact ⟨gg, cap3, w4', _, rfl, unhide HP⟩
      case rest =>
      obtain ⟨tg, cap, w6, ob, hwc, hown6, hg6, hat6⟩ := hcut
      have o6 : Only (fun k => (Value.slice ia n icap).ownBlock = some k) w5 w6 := (((Only.refl _ w5).alloc ob).drew).grown hg6 (fun k hk _ => hk)
      have s6 := o6.size
      have vl : ∀ k, (Value.slice ia n icap).ownBlock = some k → k ≠ bt := fun k hk e => by
        have := (unhide HM).1.ml.lt k (.inl (.inl (by rw [(unhide HNO).2.1]; exact hk)))
        have := (unhide HBT)
        omega
      have tgd : tg ≠ dk := fun e => by
        rcases hat6 with c | c
        · exact hne1 (by rw [c, e])
        · omega
      have tgb : tg ≠ bt := fun e => by
        rcases hat6 with c | c
        · exact vl tg c e
        · omega
      have bd : bt ≠ dk := fun e => by
        have h1 := (unhide HW5).2.2.1
        rw [e] at h1
        exact absurd (h1.inj (unhide HM5).has).2 (unhide HM5).sto.1
      have od : Only (fun k => k = dk) w6 (w6.setCell ⟨dk, o, none⟩ (.slice (some ⟨tg, 0, none⟩) (n + 1) cap)) := only1 _ _
      have H7 := ((unhide HM5).has.keep o6 hne1).setCell o (.slice (some ⟨tg, 0, none⟩) (n + 1) cap)
      have T7 := (((unhide HW5).2.2.1.keep o6 (fun e => vl bt e rfl)).keep od bd)
      have R7 := ownsRow_keep hown6 od (fun k hk e => by simp [Value.ownBlock] at hk; omega)
      have hat0 : (cs.setIfInBounds o (.slice (some ⟨tg, 0, none⟩) (n + 1) cap))[o]? = some (.slice (some ⟨tg, 0, none⟩) (n + 1) cap) := by
        rw [Array.getElem?_setIfInBounds, if_pos rfl, if_pos (Array.getElem?_eq_some_iff.mp (unhide HM).1.at_).1]
      have HF := hide (fun (wF : World) (oF : Only (fun k => k = tg) (w6.setCell ⟨dk, o, none⟩ (.slice (some ⟨tg, 0, none⟩) (n + 1) cap)) wF) (hF : wF.ownsRow 0 249 5 (.slice (some ⟨tg, 0, none⟩) (n + 1) cap) (n + 1) (gcs (l.take i ++ ⟨⟨nm, cols, pn, none, []⟩, .slice (some ⟨z, 0, none⟩) cn cn, .slice none 0 0, []⟩ :: l.drop i))) => show MdP ty w dk o cs v l D' zz (.returned (.int .i64 0)) wF from by
        have hN := (unhide HNO).2.2
        have hf3 := unhide HF3
        have h := MdP.create (w3 := w5) (w5 := (w5.alloc ob).drew) (pk := pn) (unhide HM).1 (unhide HW5).2.1 (unhide HW5).1 (fun k hk => by simp [Value.ownBlock] at hk; have := (unhide HW5).2.2.2; omega) (((Only.refl _ w5).alloc ob).drew) hown6 (by omega) (by rw [(unhide HNO).2.1]; exact hg6) (by rw [(unhide HNO).2.1]; rcases hat6 with c | c; exact .inl c; exact .inr (by have := (unhide HW5).2.1.size; omega)) (unhide HGG).1 (unhide HGG).2 (unhide HNO).1 (by omega) (by omega) (unhide HB) (unhide HB2) oF hF
        rw [unhide HDZ] at h
        exact h)
      have HS7 := hide (And.intro H7 (And.intro T7 (And.intro R7 hat0)))
      clear hown6 hg6 hat6 o6 od H7 T7 R7 hat0 own1 x1 x1f b0 b1 b2 b3 b4 c0 hne1 vl bd
      subst hwc
      generalize w6.setCell ⟨dk, o, none⟩ (.slice (some ⟨tg, 0, none⟩) (n + 1) cap) = w7 at *
      have c7 : w7.cell? ⟨dk, o, none⟩ = some (.slice (some ⟨tg, 0, none⟩) (n + 1) cap) := by rw [(unhide HS7).1.cell]; exact (unhide HS7).2.2.2
      have hwn : IntKind.i64.wrap (((n + 1 : Nat) : Int) - 1) = (n : Int) := by rw [IntWalk.i64_in] <;> omega
      have hwn' : IntKind.i64.wrap ((n : Int) + 1 - 1) = (n : Int) := by rw [IntWalk.i64_in] <;> omega
      go_upto_region 15 with fail
      go_loopw [11] (fun jv wr => ∃ (j : Nat) (y : GE), jv = .int .i64 j ∧ i ≤ j ∧ j ≤ n ∧ wr.ownsRow 0 249 5 (.slice (some ⟨tg, 0, none⟩) (n + 1) cap) (n + 1) (gcs (l.take j ++ y :: l.drop j)) ∧ Only (fun k => k = tg) w7 wr) (fun jv _ => (intOf jv).toNat)
      case atStart =>
        refine ⟨n, ⟨⟨nm, cols, pn, none, []⟩, .slice (some ⟨z, 0, none⟩) cn cn, .slice none 0 0, []⟩, rfl, hi, Nat.le_refl _, ?_, Only.refl _ _⟩
        have hN := (unhide HNO).2.2
        rw [List.take_of_length_le (by omega), List.drop_of_length_le (by omega), gcs_app]
        exact (unhide HS7).2.2.1
      case round =>
        obtain ⟨j, y, rfl, hpj, hjn, R, oW⟩ := hrel
        have cW := cell_keep c7 oW (fun e => tgd e.symm)
        have hul := (unhide HNO).2.2
        have hc := World.ownsRow.cells R (g := tg) rfl
        obtain ⟨y0, y1, y2, y3, y4⟩ := gcs_at (l.take j ++ y :: l.drop j) j (e := y) (by rw [rmid_get (by omega), if_neg (by omega), if_pos rfl])
        have k0 := hc _ _ y0
        have k1 := hc _ _ y1
        have k2 := hc _ _ y2
        have k3 := hc _ _ y3
        have k4 := hc _ _ y4
        rw [addr_add] at k0 k1 k2 k3 k4
        have f0 := gownFree R (j * 5)
        have f1 := gownFree R (j * 5 + 1)
        have f2 := gownFree R (j * 5 + 2)
        have f3 := gownFree R (j * 5 + 3)
        have f4 := gownFree R (j * 5 + 4)
        clear y0 y1 y2 y3 y4
        obtain ⟨m, hm⟩ : ∃ m, n + 1 = m := ⟨_, rfl⟩
        by_cases hj : i < j
        · have dj : decide ((j : Int) > (i : Int)) = true := decide_eq_true (by omega)
          have dj' : decide ((i : Int) < (j : Int)) = true := decide_eq_true (by omega)
          have djn : decide (i < j) = true := decide_eq_true hj
          obtain ⟨k, hjk⟩ : ∃ k, j = k + 1 := ⟨j - 1, by omega⟩
          obtain ⟨x, hx⟩ := getE (l := l) (i := k) (by omega)
          obtain ⟨a0, a1, a2, a3, a4⟩ := gcs_at (l.take j ++ y :: l.drop j) k (e := x) (by rw [rmid_get (by omega), if_pos (by omega)]; exact hx)
          have d0 := hc _ _ a0
          have d1 := hc _ _ a1
          have d2 := hc _ _ a2
          have d3 := hc _ _ a3
          have d4 := hc _ _ a4
          rw [addr_add] at d0 d1 d2 d3 d4
          have X := (unhide HM).1.ml.el x (List.mem_of_getElem? hx)
          obtain ⟨ca, cc, hcv⟩ := X.col.shape
          obtain ⟨ra, rc, hrv⟩ := X.rshape
          have S5 : (st5 wr tg j x).drew.ownsRow 0 249 5 (.slice (some ⟨tg, 0, none⟩) (n + 1) cap) (n + 1) (gcs (l.take k ++ x :: l.drop k)) := by
            have := st5_own (l := l) (j := j) (e := x) R
            rw [hjk, rmid_step (by omega) hx] at this
            rw [hjk]
            exact this
          have HR := hide (And.intro S5 (oW.trans (st5_only wr tg j x).drew (fun _ _ h => h)))
          unfold st5 at HR
          rw [hcv, hrv] at HR
          rw [hcv] at d1
          rw [hrv] at d4
          have hk' : k = j - 1 := by omega
          rw [hk'] at d0 d1 d2 d3 d4
          rw [hm] at cW
          have hjm : (j : Int) < (m : Int) := by omega
          have hj1 : (j : Int) - 1 < (m : Int) := by omega
          have hj0 : (0 : Int) ≤ (j : Int) - 1 := by omega
          have hj8 : j ≤ 8 := by omega
          have HJK := hide (And.intro hjk hj)
          clear R oW hx hc S5 X hcv hrv hj hjk hk' hm hwn hwn' a0 a1 a2 a3 a4 hul
          go_upto_region 17 with fail
          go_region
          go_wp2_with fail
          go_roundw
          case rel => exact ⟨k, x, by rw [(unhide HJK).1]; go_num, by have := unhide HJK; omega, by have := unhide HJK; omega, (unhide HR).1, (unhide HR).2⟩
          case measure => have := unhide HJK; simp [intOf]; omega
        · obtain rfl : j = i := by omega
          have dj : decide ((j : Int) > (j : Int)) = false := decide_eq_false (by omega)
          have dj' : decide ((j : Int) < (j : Int)) = false := decide_eq_false (by omega)
          have TW := (unhide HS7).2.1.keep oW (fun e => tgb e.symm)
          have t0 := TW.cell 0
          have t1 := TW.cell 1
          have t2 := TW.cell 2
          have t3 := TW.cell 3
          have t4 := TW.cell 4
          simp at t0 t1 t2 t3 t4
          have HQ := hide (unhide HF ((st5 wr tg j ⟨⟨nm, cols, pn, none, []⟩, .slice (some ⟨z, 0, none⟩) cn cn, .slice none 0 0, []⟩).drew) (oW.trans (st5_only wr tg j ⟨⟨nm, cols, pn, none, []⟩, .slice (some ⟨z, 0, none⟩) cn cn, .slice none 0 0, []⟩).drew (fun _ _ h => h)) (by
            have := st5_own (l := l) (j := j) (e := ⟨⟨nm, cols, pn, none, []⟩, .slice (some ⟨z, 0, none⟩) cn cn, .slice none 0 0, []⟩) R
            rw [rmid_set (by omega)] at this
            exact this))
          unfold st5 at HQ
          rw [hm] at cW
          have hjI : (j : Int) < (m : Int) := by omega
          clear R oW hc TW hwn hwn' hm hul
          go_upto_region 18 with fail
          go_region
          go_wp2_with fail
          go_ret
          exact unhide HQ
end
end Go.Proofs.Qxb6500412aGreat
