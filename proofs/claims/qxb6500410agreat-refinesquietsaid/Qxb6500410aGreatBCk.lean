/-
  OWN WORK. THE B-TREE: Check's walk.
-/
import Derived.Test.Qxb6500410aGreatBFor
import Derived.Test.Qxb6500410aGreatBScn2
import Derived.Deep.QuietTactic
import Derived.BigQuiet
namespace Go.Proofs.Qxb6500410aGreat
open Go.RowKit Go.PlainAid
set_option linter.unusedSimpArgs false
set_option linter.unusedVariables false

theorem ltm {a b c : ByteArray} (h1 : lt b a = false) (h2 : lt b c = true) : lt a c = true := by
  rcases lt_total a c with h | h | h
  · exact h
  · rw [h, h2] at h1; cases h1
  · rw [lt_trans h2 h] at h1; cases h1
theorem ltn {a b c : ByteArray} (h1 : lt b a = false) (h2 : lt b c = true) : lt c a = false := lt_asymm (ltm h1 h2)
theorem onlyN {B : Nat → Prop} (w : World) (n : Nat) : Only B w (w.drewN n) := by
  induction n with
  | zero => exact Only.refl _ _
  | succ n ih => exact ih.drew
def keysN (h : Nat) (x : Node) : Nat := if h = 0 then x.n else x.n - 1
/-- What the walk asks of the keys of a node. -/
theorem keyOk {N : Nat → Option ByteArray} {h : Nat} {x : Node} {s : ByteArray} {hi : Option ByteArray} {lo : Nat} {t : Tr (h + 1)} (g : Gd N h s hi lo t) (r : Rep h x (itT t)) (i : Nat) (hk : i < keysN h x) : lt (x.K i) s = false ∧ ltO (x.K i) hi ∧ (0 < i → lt (x.K (i - 1)) (x.K i) = true) := by
  have hn := r.n
  have ball := Bd_ents t s hi g.sz g.bd
  cases h with
  | zero =>
    have hk : i < x.n := hk
    have r' : RepL x (show List KV from itT t) := r
    have e1 : ents 1 s t = (show List KV from itT t) := by rw [ents_succ]; exact entsL_zero _
    have hsrt := Bd_srt t s hi g.sz g.bd
    rw [e1] at ball hsrt
    obtain ⟨e, he⟩ : ∃ e : KV, (show List KV from itT t)[i]? = some e := get_ex (show i < (itT t).length by omega)
    have hb := ball e (List.mem_of_getElem? he)
    have hx := (r'.v i e he).1
    rw [hx]
    refine ⟨hb.1, hb.2, fun h0 => ?_⟩
    obtain ⟨f, hf⟩ : ∃ f : KV, (show List KV from itT t)[i - 1]? = some f := get_ex (show i - 1 < (itT t).length by omega)
    rw [(r'.v (i - 1) f hf).1]
    have hp := List.pairwise_iff_getElem.mp hsrt (i - 1) i (by have := get_lt hf; exact this) (get_lt he) (by omega)
    obtain ⟨_, q1⟩ := List.getElem?_eq_some_iff.mp he
    obtain ⟨_, q2⟩ := List.getElem?_eq_some_iff.mp hf
    rw [q1, q2] at hp
    exact hp
  | succ h =>
    have hk : i < x.n - 1 := hk
    have r' : RepI x (pk (itT t)) := r
    obtain ⟨xs, e, ys, hit, hxl⟩ := cut_at (l := itT t) (i := i + 1) (by omega)
    obtain ⟨s1, c⟩ := e
    have I := g.inn hit
    have hg1 : (itT t)[i + 1]? = some (s1, c) := by rw [hit, ← hxl]; exact mid_get
    have hKi : x.K i = s1 := r'.s i (s1, pgT c) (pk_get hg1)
    have he1 : ∀ y ∈ ents (h + 1) s1 c, y ∈ ents (h + 2) s t := fun y hy => by
      rw [ents_succ, hit, entsL_app, entsL_cons]
      exact List.mem_append.mpr (.inr (List.mem_append.mpr (.inl hy)))
    obtain ⟨y, hy⟩ := List.exists_mem_of_ne_nil _ (Sz.ne (by omega) s1 I.cz)
    have y1 := Bd_ents c s1 _ I.cz I.cbd y hy
    have y2 := ball y (he1 y hy)
    obtain ⟨xs', f, hxs⟩ : ∃ xs' f, xs = xs' ++ [f] := by
      have : xs ≠ [] := fun e => by rw [e] at hxl; simp at hxl
      exact ⟨xs.dropLast, xs.getLast this, (List.dropLast_concat_getLast this).symm⟩
    have hit2 : itT t = xs' ++ (f.1, f.2) :: (s1, c) :: ys := by rw [hit, hxs]; simp
    have I2 := g.inn hit2
    obtain ⟨x0, hx0⟩ := List.exists_mem_of_ne_nil _ (Sz.ne (by omega) f.1 I2.cz)
    have z1 := Bd_ents f.2 f.1 _ I2.cz I2.cbd x0 hx0
    have z2 := ball x0 (by
      rw [ents_succ, hit2, entsL_app, entsL_cons]
      exact List.mem_append.mpr (.inr (List.mem_append.mpr (.inl hx0))))
    have z3 : lt x0.1 s1 = true := z1.2
    rw [hKi]
    refine ⟨ltn z2.1 z3, le_ltO y1.1 y2.2, fun h0 => ?_⟩
    obtain ⟨j, rfl⟩ : ∃ j, i = j + 1 := ⟨i - 1, by omega⟩
    have hx' : xs'.length = j + 1 := by rw [hxs] at hxl; simp at hxl; omega
    have hg2 : (itT t)[j + 1]? = some (f.1, f.2) := by rw [hit2, ← hx']; exact mid_get
    have hKj : x.K j = f.1 := r'.s j (f.1, pgT f.2) (pk_get hg2)
    show lt (x.K j) s1 = true
    rw [hKj]
    exact ltm z1.1 z3
/-- The tally. -/
def tlF (seen : Nat → Bool) (ent dep : Nat) (j : Nat) : Value := if j < 72 then .bool (seen j) else if j = 72 then .int .i64 (ent : Int) else .int .i64 (dep : Int)
def TlAt (w : World) (t : Nat) (seen : Nat → Bool) (ent dep : Nat) : Prop := Has w t (tabV 74 (tlF seen ent dep)) 133
def see1 (seen : Nat → Bool) (n : Nat) : Nat → Bool := fun j => if j = n then true else seen j
def seeA (seen : Nat → Bool) (ps : List Nat) : Nat → Bool := fun j => if j ∈ ps then true else seen j
theorem seeA_nil (seen : Nat → Bool) : seeA seen [] = seen := by funext j; simp [seeA]
theorem seeA_app (seen : Nat → Bool) (a b : List Nat) : seeA (seeA seen a) b = seeA seen (a ++ b) := by
  funext j
  unfold seeA
  by_cases h1 : j ∈ b
  · rw [if_pos h1, if_pos (by simp [h1])]
  · rw [if_neg h1]
    by_cases h2 : j ∈ a
    · rw [if_pos h2, if_pos (by simp [h2])]
    · rw [if_neg h2, if_neg (by simp [h1, h2])]
theorem see1_A (seen : Nat → Bool) (n : Nat) : see1 seen n = seeA seen [n] := by funext j; unfold see1 seeA; simp
section
variable {w w' : World} {t : Nat} {seen : Nat → Bool} {ent dep : Nat}
theorem TlAt.keep {B : Nat → Prop} (h : TlAt w t seen ent dep) (ho : Only B w w') (hB : ¬ B t) : TlAt w' t seen ent dep := Has.keep h ho hB
theorem TlAt.cs (h : TlAt w t seen ent dep) {n : Nat} (hn : n < 72) : w.cell? ⟨t, n, none⟩ = some (.bool (seen n)) ∧ w.frozen? ⟨t, n, none⟩ = false := by
  refine ⟨?_, Has.free h n⟩
  rw [Has.cell h, tabV_get _ _ _ (by omega)]
  unfold tlF
  rw [if_pos hn]
theorem TlAt.ce (h : TlAt w t seen ent dep) : w.cell? ⟨t, 72, none⟩ = some (.int .i64 (ent : Int)) ∧ w.frozen? ⟨t, 72, none⟩ = false := by
  refine ⟨?_, Has.free h 72⟩
  rw [Has.cell h, tabV_get _ _ _ (by omega)]
  rfl
theorem TlAt.cd (h : TlAt w t seen ent dep) : w.cell? ⟨t, 73, none⟩ = some (.int .i64 (dep : Int)) ∧ w.frozen? ⟨t, 73, none⟩ = false := by
  refine ⟨?_, Has.free h 73⟩
  rw [Has.cell h, tabV_get _ _ _ (by omega)]
  rfl
theorem TlAt.set (h : TlAt w t seen ent dep) {n : Nat} (hn : n < 72) : TlAt (w.setCell ⟨t, n, none⟩ (.bool true)) t (see1 seen n) ent dep := by
  have := Has.setCell h n (.bool true)
  rw [tabV_set] at this
  unfold TlAt
  rw [tabV_congr 74 (g := tlF (see1 seen n) ent dep) (fun j hj => by
    unfold tlF see1
    by_cases e : j = n
    · rw [if_pos e, if_pos (by omega), if_pos e]
    · rw [if_neg e]
      by_cases c : j < 72
      · rw [if_pos c, if_pos c, if_neg e]
      · rw [if_neg c, if_neg c])] at this
  exact this
theorem TlAt.setE (h : TlAt w t seen ent dep) (m : Nat) : TlAt (w.setCell ⟨t, 72, none⟩ (.int .i64 (m : Int))) t seen m dep := by
  have := Has.setCell h 72 (.int .i64 (m : Int))
  rw [tabV_set] at this
  unfold TlAt
  rw [tabV_congr 74 (g := tlF seen m dep) (fun j hj => by
    unfold tlF
    by_cases e : j = 72
    · rw [if_pos e, if_neg (by omega), if_pos e]
    · rw [if_neg e]
      by_cases c : j < 72
      · rw [if_pos c, if_pos c]
      · rw [if_neg c, if_neg c, if_neg e, if_neg e])] at this
  exact this
theorem TlAt.setD (h : TlAt w t seen ent dep) (m : Nat) : TlAt (w.setCell ⟨t, 73, none⟩ (.int .i64 (m : Int))) t seen ent m := by
  have := Has.setCell h 73 (.int .i64 (m : Int))
  rw [tabV_set] at this
  unfold TlAt
  rw [tabV_congr 74 (g := tlF seen ent m) (fun j hj => by
    unfold tlF
    by_cases e : j = 73
    · rw [if_pos e, if_neg (by omega), if_neg (by omega)]
    · rw [if_neg e]
      by_cases c : j < 72
      · rw [if_pos c, if_pos c]
      · rw [if_neg c, if_neg c, if_pos (by omega), if_pos (by omega)])] at this
  exact this
end
theorem within_any (k ls hs s : ByteArray) (hi : Option ByteArray) (hL hH : Bool) (b1 : hL = true → ls = s) (b2 : hH = true → hi = some hs) (h1 : lt k s = false) (h2 : ltO k hi) (w : World) :
    Calls Tryz.prog 141 #[.string k, .string ls, .bool hL, .string hs, .bool hH] w fun e w' => e = .returned (.bool true) ∧ w = w' := by
  cases hL with
  | true =>
    have e := b1 rfl
    subst e
    have f1 : (Op.bytesLess ls.toList k.toList || ls.toList == k.toList) = true := by
      rcases lt_total ls k with c | c | c
      · have c' : Op.bytesLess ls.toList k.toList = true := c
        rw [c']; rfl
      · rw [c]; simp
      · rw [h1] at c; cases c
    cases hH with
    | true =>
      have e2 := b2 rfl
      subst e2
      have f2 : Op.bytesLess k.toList hs.toList = true := h2
      go_enter Tryz.func141, Tryz.ntmps141
      go_wp2_with fail
      go_ret
      exact ⟨rfl, rfl⟩
    | false =>
      go_enter Tryz.func141, Tryz.ntmps141
      go_wp2_with fail
      go_ret
      exact ⟨rfl, rfl⟩
  | false =>
    cases hH with
    | true =>
      have e2 := b2 rfl
      subst e2
      have f2 : Op.bytesLess k.toList hs.toList = true := h2
      go_enter Tryz.func141, Tryz.ntmps141
      go_wp2_with fail
      go_ret
      exact ⟨rfl, rfl⟩
    | false =>
      go_enter Tryz.func141, Tryz.ntmps141
      go_wp2_with fail
      go_ret
      exact ⟨rfl, rfl⟩
def Gnd.T (q : Gnd) (tb k : Nat) : Prop := q.S k ∨ k = tb
section
variable {q : Gnd} {op : Bool} {view : List ByteArray}
structure Off (q : Gnd) (tb : Nat) : Prop where
  F : ¬ q.F tb
  G : ¬ q.G tb
  p : tb ≠ q.p
  f : tb ≠ q.f
theorem Off.S {tb : Nat} (h : Off q tb) : ¬ q.S tb := fun c => by
  rcases c with c | c
  · exact h.G c
  · exact h.p c
theorem FA.off {w w' : World} {tb : Nat} (A : FA q w op view) (h : Off q tb) (ho : Only (fun k => k = tb) w w') : FA q w' op view :=
  A.keep ho (fun k hk e => h.F (by rw [← e]; exact hk)) (fun k hk e => h.G (by rw [← e]; exact hk)) (fun e => h.p e.symm) (fun e => h.f e.symm)
def CkR (q : Gnd) (op : Bool) (view : List ByteArray) (w : World) (tb : Nat) (seen : Nat → Bool) (ent : Nat) (level h : Nat) (t : Tr (h + 1)) (e : Ending) (w' : World) : Prop :=
  e = .returned (.bool true) ∧ FA q w' op view ∧ TlAt w' tb (seeA seen (pgs (h + 1) t)) (ent + (entsL h (itT t)).length) (level + h) ∧ Only (q.T tb) w w'
theorem NV_pg {h : Nat} {s : ByteArray} {hi : Option ByteArray} {lo : Nat} {t : Tr (h + 1)} (g : Gd (NV view) h s hi lo t) : pgT t < 72 := NV_lt _ _ g.st.1
set_option maxRecDepth 100000 in
set_option maxHeartbeats 8000000 in
theorem cwalk_leaf {w : World} (A : FA q w op view) {s : ByteArray} {hi : Option ByteArray} {lo : Nat} {t : Tr 1} (g : Gd (NV view) 0 s hi lo t) {tb : Nat} {seen : Nat → Bool} {ent dep : Nat} (Tl : TlAt w tb seen ent dep) (hO : Off q tb) (level : Nat) (hl1 : 1 ≤ level) (hl8 : level + 0 ≤ 8) (hlo : lo = 2 ∨ level = 1) (hdep : dep = 0 ∨ dep = level + 0) (hsn : ∀ n ∈ pgs (0 + 1) t, seen n = false) (hen : ent + (entsL 0 (itT t)).length ≤ 1000) (ls hs : ByteArray) (hL hH : Bool) (b1 : hL = true → ls = s) (b2 : hH = true → hi = some hs) :
    Calls Tryz.prog 101 #[.pointer (some ⟨q.f, 0, none⟩), .pointer (some ⟨tb, 0, none⟩), .int .i64 (pgT t), .int .i64 level, .string ls, .bool hL, .string hs, .bool hH] w (CkR q op view w tb seen ent level 0 t) := by
  have hl3 : (itT t).length ≤ 3 := g.sz.2.1
  have hz1 := g.sz.1
  have hp72 := NV_pg g
  have p1 : decide ((level : Int) > 8) = false := decide_eq_false (by omega)
  have p1' : decide (8 < (level : Int)) = false := decide_eq_false (by omega)
  have p2 : decide ((pgT t : Int) < 0) = false := decide_eq_false (by omega)
  have p3 : decide ((pgT t : Int) ≥ 72) = false := decide_eq_false (by omega)
  have p3' : decide (72 ≤ (pgT t : Int)) = false := decide_eq_false (by omega)
  have p4 : (pgT t : Int) < 72 := by omega
  have t1 := Tl.cs hp72
  rw [hsn _ (pgT_in t)] at t1
  obtain ⟨t1, t1f⟩ := t1
  have Tl1 := Tl.set hp72
  have o0 : Only (fun k => k = tb) w (w.setCell ⟨tb, pgT t, none⟩ (.bool true)) := only1 _ _
  have A0 := A.off hO o0
  have C := hide (load_any A0 g.st.1 g.fits)
  have HT := hide Tl1
  have oT : Only (q.T tb) w (w.setCell ⟨tb, pgT t, none⟩ (.bool true)) := o0.mono (fun k _ e => .inr e)
  have HO := hide oT
  have s0 := o0.size
  clear Tl1 o0 A0 oT
  go_enter Tryz.func101, Tryz.ntmps101
  go_upto_region 4 with fail
  generalize w.setCell ⟨tb, pgT t, none⟩ (.bool true) = w0 at *
  clear t1 t1f
  go_wp2_with fail
  refine (unhide C).mono ?_
  rintro e w1 ⟨x, rfl, r, A1, o1⟩
  have s1 := o1.size
  have HH := hide (And.intro r (And.intro A1 (And.intro ((unhide HT).keep o1 hO.S) ((unhide HO).trans o1 (fun k _ h => .inl h)))))
  have rk := r.kd0
  have kk2 : ((x.k : Int) == 2) = false := kk_f (b := 2) (by omega)
  have kk : ((x.k : Int) == 1) = true := kk_t (b := 1) rk
  have xn := r.n
  have x4 : x.n ≤ 4 := by omega
  have XN := hide xn
  have KO : Hid (∀ i, i < keysN 0 x → lt (x.K i) s = false ∧ ltO (x.K i) hi ∧ (0 < i → lt (x.K (i - 1)) (x.K i) = true)) := hide (fun i hk => keyOk g r i hk)
  clear A1 o1 r rk HT HO C xn
  go_upto_region 5 with (first | (refine wpList_alloc_ndd 17 rfl rfl rfl ?_; intro b w2 hB gB oB; have HB := hide hB; have OB := hide oB; clear hB oB) | (refine wpList_store_nd rfl _ _ rfl b x rfl rfl (unhide HB) ?_; intro w3 n3 o3))
  have s2 := (unhide OB).size
  have hb0 : w.heap.size ≤ b := by omega
  have tlt := Has.lt Tl
  have A3 := hide (((unhide HH).2.1.quiet (unhide OB)).loc A hb0 o3)
  have T3 := hide (((unhide HH).2.2.1.keep (unhide OB) (fun h => h)).keep o3 (fun e => by omega))
  have O3 := hide ((((unhide HH).2.2.2).q0 (unhide OB)).qn o3 hb0)
  have N3 := hide n3
  have nSb := A.nS hb0
  have nTb : ¬ q.T tb b := fun c => by
    rcases c with c | c
    · exact nSb c
    · omega
  clear n3 o3 HB OB gB
  have c0 := (unhide N3).kind.1
  have c1 := (unhide N3).num.1
  have hkk : keysN 0 x ≤ 4 ∧ keysN 0 x = x.n := ⟨by unfold keysN; rw [if_pos rfl]; omega, by unfold keysN; rw [if_pos rfl]⟩
  obtain ⟨hk4, hke⟩ := hkk

  have hki : (x.n : Int) = (keysN 0 x : Int) := by omega

  generalize hkn : keysN 0 x = kn at *
  go_upto_region 11 with fail
  go_loopw [20] (fun iv wr => ∃ i : Nat, iv = .int .i64 i ∧ i ≤ kn ∧ Only (fun _ => False) w3 wr) (fun iv _ => 5 - (intOf iv).toNat)
  case atStart => exact ⟨0, rfl, Nat.zero_le _, Only.refl _ _⟩
  case round =>
    obtain ⟨i, rfl, hi_, oR⟩ := hrel
    have NR := hide ((unhide N3).keep oR (fun h => h))
    have OR := hide oR
    clear oR c0 c1
    by_cases hs_ : i < kn
    · have a1 : decide ((i : Int) < (x.n : Int)) = true := decide_eq_true (by omega)
      have a1' : decide ((i : Int) < (kn : Int)) = true := decide_eq_true (by omega)
      have a2 : (i : Int) < 4 := by omega
      have ck := ((unhide NR).key i (by omega)).1
      obtain ⟨k1, k2, k3⟩ := unhide KO i hs_
      have CW := hide (within_any (x.K i) ls hs s hi hL hH b1 b2 k1 k2)
      clear k1 k2
      by_cases hi0 : 0 < i
      · have a3 : decide ((i : Int) > 0) = true := decide_eq_true (by omega)
        have a3' : decide (0 < (i : Int)) = true := decide_eq_true (by omega)
        have k4 : Op.bytesLess (x.K (i - 1)).toList (x.K i).toList = true := k3 hi0
        have cj := ((unhide NR).key (i - 1) (by omega)).1
        have ej : ((i : Int) - 1).toNat = i - 1 := by omega
        have a4 : (0 : Int) ≤ (i : Int) - 1 := by omega
        have a5 : (i : Int) - 1 < 4 := by omega
        clear k3
        go_upto_region 13 with fail
        go_quiet (first | (go_at_call 141; exact Calls.quiet_of_same ((unhide CW _).mono (fun e w' h => ⟨h.1, h.2.symm⟩))))
        go_wp2_with fail
        go_roundw
        case rel => exact ⟨i + 1, by go_num, by omega, (unhide OR).trans (onlyN _ _) (fun _ _ h => h)⟩
        case measure => simp [intOf]; omega
      · have a3 : decide ((i : Int) > 0) = false := decide_eq_false (by omega)
        have a3' : decide (0 < (i : Int)) = false := decide_eq_false (by omega)
        clear k3
        go_upto_region 13 with fail
        go_quiet (first | (go_at_call 141; exact Calls.quiet_of_same ((unhide CW _).mono (fun e w' h => ⟨h.1, h.2.symm⟩))))
        go_wp2_with fail
        go_roundw
        case rel => exact ⟨i + 1, by go_num, by omega, (unhide OR).trans (onlyN _ _) (fun _ _ h => h)⟩
        case measure => simp [intOf]; omega
    · have a1 : decide ((i : Int) < (x.n : Int)) = false := decide_eq_false (by omega)
      have a1' : decide ((i : Int) < (kn : Int)) = false := decide_eq_false (by omega)
      clear KO
      have A4 := hide ((unhide A3).quiet (unhide OR))
      have T4 := hide ((unhide T3).keep (unhide OR) (fun h => h))
      have O4 := hide ((unhide O3).q0 (unhide OR))
      have c0 := (unhide NR).kind.1
      have c1 := (unhide NR).num.1
      have hs3 : ¬ ((i : Int) < (x.n : Int)) := by omega
      have hs4 : ¬ ((i : Int) < (kn : Int)) := by omega
      clear A3 T3 O3 N3 OR hki hke hkn
      by_cases hv1 : level = 1
      · have lv1 : ((level : Int) == 1) = true := by simp; omega
        clear hv1
        rcases hdep with hd | hd
        · subst hd
          obtain ⟨t2, t2f⟩ := (unhide T4).cd
          have T5 := (unhide T4).setD level
          have o5 : Only (fun k => k = tb) wr (wr.setCell ⟨tb, 73, none⟩ (.int .i64 (level : Int))) := only1 _ _
          have A5 := (unhide A4).off hO o5
          have O5 := (unhide O4).trans o5 (fun k _ e => .inr e)
          have N5 := (unhide NR).keep o5 (fun e => by omega)
          clear o5 A4 O4 T4 NR
          go_upto_region 18 with fail
          clear t2 t2f
          generalize wr.setCell ⟨tb, 73, none⟩ (.int .i64 (level : Int)) = w5 at *
          have d5 := T5.cd.1
          obtain ⟨e5, e5f⟩ := T5.ce
          have T6 := T5.setE (ent + x.n)
          have ee : ((ent + x.n : Nat) : Int) = (ent : Int) + (x.n : Int) := by omega
          rw [ee] at T6
          have o6 : Only (fun k => k = tb) w5 (w5.setCell ⟨tb, 72, none⟩ (.int .i64 ((ent : Int) + (x.n : Int)))) := only1 _ _
          have HP := hide (And.intro T6 (And.intro (A5.off hO o6) (O5.trans o6 (fun k _ e => .inr e))))
          have n5 := (N5.num).1
          clear T5 T6 o6 A5 O5 N5 ee c0 c1
          have xle : (ent : Int) + (x.n : Int) ≤ 1000 := by
            have h1 := unhide XN
            have h2 : (entsL 0 (itT t)).length = (itT t).length := by rw [show entsL 0 (itT t) = (show List KV from itT t) from entsL_zero _]; rfl
            omega
          go_region
          all_goals
            go_wp2_with fail
            go_ret
            refine ⟨by first | rfl | simp, (unhide HP).2.1.quiet (Only.refl _ _).drew, ?_, (unhide HP).2.2.drew⟩
            have h2 : (entsL 0 (itT t)).length = x.n := by rw [show entsL 0 (itT t) = (show List KV from itT t) from entsL_zero _]; exact (unhide XN).symm
            rw [h2, pgs_succ, show pgsL 0 (itT t) = [] from pgsL_zero _, ← see1_A]
            exact (unhide HP).1.keep (Only.refl (fun _ => False) _).drew (fun h => h)
        · have hd0 : ((dep : Int) == 0) = false := by simp; omega
          obtain ⟨t2, t2f⟩ := (unhide T4).cd
          have T5 := unhide T4
          have A5 := unhide A4
          have O5 := unhide O4
          have N5 := unhide NR
          have hd1 : dep = level := by omega
          rw [hd1] at T5 t2 hd0
          clear A4 O4 T4 NR hd hd1
          go_upto_region 18 with fail
          clear t2 t2f
          generalize wr = w5 at *
          have d5 := T5.cd.1
          obtain ⟨e5, e5f⟩ := T5.ce
          have T6 := T5.setE (ent + x.n)
          have ee : ((ent + x.n : Nat) : Int) = (ent : Int) + (x.n : Int) := by omega
          rw [ee] at T6
          have o6 : Only (fun k => k = tb) w5 (w5.setCell ⟨tb, 72, none⟩ (.int .i64 ((ent : Int) + (x.n : Int)))) := only1 _ _
          have HP := hide (And.intro T6 (And.intro (A5.off hO o6) (O5.trans o6 (fun k _ e => .inr e))))
          have n5 := (N5.num).1
          clear T5 T6 o6 A5 O5 N5 ee c0 c1
          have xle : (ent : Int) + (x.n : Int) ≤ 1000 := by
            have h1 := unhide XN
            have h2 : (entsL 0 (itT t)).length = (itT t).length := by rw [show entsL 0 (itT t) = (show List KV from itT t) from entsL_zero _]; rfl
            omega
          go_region
          all_goals
            go_wp2_with fail
            go_ret
            refine ⟨by first | rfl | simp, (unhide HP).2.1.quiet (Only.refl _ _).drew, ?_, (unhide HP).2.2.drew⟩
            have h2 : (entsL 0 (itT t)).length = x.n := by rw [show entsL 0 (itT t) = (show List KV from itT t) from entsL_zero _]; exact (unhide XN).symm
            rw [h2, pgs_succ, show pgsL 0 (itT t) = [] from pgsL_zero _, ← see1_A]
            exact (unhide HP).1.keep (Only.refl (fun _ => False) _).drew (fun h => h)
      · have lv1 : ((level : Int) == 1) = false := by simp; omega
        have HV1 := hide hv1
        clear hv1
        have x2 : 2 ≤ x.n := by
          have h1 := unhide XN
          have h2 := unhide HV1
          rcases hlo with c | c <;> omega
        have x2a : decide ((x.n : Int) ≥ 2) = true := decide_eq_true (by omega)
        have x2b : decide (2 ≤ (x.n : Int)) = true := decide_eq_true (by omega)
        clear x2
        rcases hdep with hd | hd
        · subst hd
          obtain ⟨t2, t2f⟩ := (unhide T4).cd
          have T5 := (unhide T4).setD level
          have o5 : Only (fun k => k = tb) wr (wr.setCell ⟨tb, 73, none⟩ (.int .i64 (level : Int))) := only1 _ _
          have A5 := (unhide A4).off hO o5
          have O5 := (unhide O4).trans o5 (fun k _ e => .inr e)
          have N5 := (unhide NR).keep o5 (fun e => by omega)
          clear o5 A4 O4 T4 NR
          go_upto_region 18 with fail
          clear t2 t2f
          generalize wr.setCell ⟨tb, 73, none⟩ (.int .i64 (level : Int)) = w5 at *
          have d5 := T5.cd.1
          obtain ⟨e5, e5f⟩ := T5.ce
          have T6 := T5.setE (ent + x.n)
          have ee : ((ent + x.n : Nat) : Int) = (ent : Int) + (x.n : Int) := by omega
          rw [ee] at T6
          have o6 : Only (fun k => k = tb) w5 (w5.setCell ⟨tb, 72, none⟩ (.int .i64 ((ent : Int) + (x.n : Int)))) := only1 _ _
          have HP := hide (And.intro T6 (And.intro (A5.off hO o6) (O5.trans o6 (fun k _ e => .inr e))))
          have n5 := (N5.num).1
          clear T5 T6 o6 A5 O5 N5 ee c0 c1
          have xle : (ent : Int) + (x.n : Int) ≤ 1000 := by
            have h1 := unhide XN
            have h2 : (entsL 0 (itT t)).length = (itT t).length := by rw [show entsL 0 (itT t) = (show List KV from itT t) from entsL_zero _]; rfl
            omega
          go_region
          all_goals
            go_wp2_with fail
            go_ret
            refine ⟨by first | rfl | simp, (unhide HP).2.1.quiet (Only.refl _ _).drew, ?_, (unhide HP).2.2.drew⟩
            have h2 : (entsL 0 (itT t)).length = x.n := by rw [show entsL 0 (itT t) = (show List KV from itT t) from entsL_zero _]; exact (unhide XN).symm
            rw [h2, pgs_succ, show pgsL 0 (itT t) = [] from pgsL_zero _, ← see1_A]
            exact (unhide HP).1.keep (Only.refl (fun _ => False) _).drew (fun h => h)
        · have hd0 : ((dep : Int) == 0) = false := by simp; omega
          obtain ⟨t2, t2f⟩ := (unhide T4).cd
          have T5 := unhide T4
          have A5 := unhide A4
          have O5 := unhide O4
          have N5 := unhide NR
          have hd1 : dep = level := by omega
          rw [hd1] at T5 t2 hd0
          clear A4 O4 T4 NR hd hd1
          go_upto_region 18 with fail
          clear t2 t2f
          generalize wr = w5 at *
          have d5 := T5.cd.1
          obtain ⟨e5, e5f⟩ := T5.ce
          have T6 := T5.setE (ent + x.n)
          have ee : ((ent + x.n : Nat) : Int) = (ent : Int) + (x.n : Int) := by omega
          rw [ee] at T6
          have o6 : Only (fun k => k = tb) w5 (w5.setCell ⟨tb, 72, none⟩ (.int .i64 ((ent : Int) + (x.n : Int)))) := only1 _ _
          have HP := hide (And.intro T6 (And.intro (A5.off hO o6) (O5.trans o6 (fun k _ e => .inr e))))
          have n5 := (N5.num).1
          clear T5 T6 o6 A5 O5 N5 ee c0 c1
          have xle : (ent : Int) + (x.n : Int) ≤ 1000 := by
            have h1 := unhide XN
            have h2 : (entsL 0 (itT t)).length = (itT t).length := by rw [show entsL 0 (itT t) = (show List KV from itT t) from entsL_zero _]; rfl
            omega
          go_region
          all_goals
            go_wp2_with fail
            go_ret
            refine ⟨by first | rfl | simp, (unhide HP).2.1.quiet (Only.refl _ _).drew, ?_, (unhide HP).2.2.drew⟩
            have h2 : (entsL 0 (itT t)).length = x.n := by rw [show entsL 0 (itT t) = (show List KV from itT t) from entsL_zero _]; exact (unhide XN).symm
            rw [h2, pgs_succ, show pgsL 0 (itT t) = [] from pgsL_zero _, ← see1_A]
            exact (unhide HP).1.keep (Only.refl (fun _ => False) _).drew (fun h => h)
end
end Go.Proofs.Qxb6500410aGreat
