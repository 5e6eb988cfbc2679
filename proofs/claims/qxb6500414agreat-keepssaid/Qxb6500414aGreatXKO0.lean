/-
  OWN WORK. TXN, Keeps: a shot while it is taken.
-/
import Derived.Test.Qxb6500414aGreatXKP0
namespace Go.Proofs.Qxb6500414aGreat
open Go.RowKit Go.PlainAid
set_option linter.unusedSimpArgs false
set_option linter.unusedVariables false

theorem Only.frX {B : Nat → Prop} {w w' : World} {p : Addr} (ho : Only B w w') (h : w.frozen? p = false) (hb : ¬ B p.block) (hl : p.block < w.heap.size) : w'.frozen? p = false := by
  rw [← h]
  unfold World.frozen?
  rw [ho.block p.block hl hb]
theorem Tryz.infoERows : (Tryz.prog.info? 48).map (fun i => (i.zero, i.size, i.bytes)) = some (some (.slice none 0 0), 1, 24) := by kernel_rfl
section
variable {lo : Nat} {w w' : World} {k : Nat} {S : Sx} {j : Nat}
/-- A slice grown by one. -/
theorem SHM.push (h : SHM lo w k S) (hj : j < 10) {wm w3 : World} {v' y : Value} {n : Nat} (hn : n = (S.xs j).length + 1) (oa : Only (fun _ => False) w wm) (hown : w3.ownsRow 0 (sty j) 1 v' n (S.xs j ++ [y])) (hgrow : wm.grownBy w3 (S.sl j).ownBlock) (hwhere : ∀ b, v'.ownBlock = some b → (S.sl j).ownBlock = some b ∨ w.heap.size ≤ b) (hlo : lo ≤ w.heap.size) {rz : Nat → List (List (List Vl))} (hr : ∀ s, s < 4 → ((S.setS j v' (S.xs j ++ [y])).xs (2 + s)).length = (rz s).length ∧ ∀ (t : Nat) (z : Value) (r : List (List Vl)), ((S.setS j v' (S.xs j ++ [y])).xs (2 + s))[t]? = some z → (rz s)[t]? = some r → (∃ us, RK lo w z r us) ∨ ((S.xs (2 + s))[t]? = some z ∧ (S.rz s)[t]? = some r)) : SHM lo (w3.setCell ⟨k, j, none⟩ v') k { S.setS j v' (S.xs j ++ [y]) with rz := rz } ∧ Only (S.U k j) w (w3.setCell ⟨k, j, none⟩ v') := by
  have og : Only (fun b => (S.sl j).ownBlock = some b) w w3 := (oa.mono (fun _ _ e => e.elim)).grown hgrow (fun b hb _ => hb)
  have o1 : Only (fun b => b = k) w3 (w3.setCell ⟨k, j, none⟩ v') := only1 _ _
  have oU : Only (S.U k j) w (w3.setCell ⟨k, j, none⟩ v') := (og.mono (T := S.U k j) (fun b _ hb => .inr hb)).trans o1 (fun b _ e => .inl e)
  have kl := h.lt
  have hk3 : Has w3 k (tabV 14 (shcell S)) 67 := h.has.keep og (fun c => h.kne hj c rfl)
  refine ⟨h.setS hj oU (SHM.hasS hk3 hj v' _) ?_ hwhere hlo (fun s hs => ⟨(hr s hs).1, fun t z r hz hrr => ?_⟩), oU⟩
  · have hl : (S.xs j ++ [y]).length = n := by rw [List.length_append, hn]; rfl
    rw [hl]
    refine ownsRow_keep hown o1 (fun b hb e => ?_)
    have e' : b = k := e
    subst e'
    rcases hwhere b hb with c | c
    · exact h.kne hj c rfl
    · omega
  · rcases (hr s hs).2 t z r hz hrr with ⟨us, hu⟩ | c
    · exact .inl ⟨us, hu.keep oU (fun b _ hb => h.rwU hj hb)⟩
    · exact .inr c
/-- A slice that holds no rows grown by one. -/
theorem SHM.pushN (h : SHM lo w k S) (hj : j < 10) (hjr : ∀ s, s < 4 → 2 + s ≠ j) {wm w3 : World} {v' y : Value} {n : Nat} (hn : n = (S.xs j).length + 1) (oa : Only (fun _ => False) w wm) (hown : w3.ownsRow 0 (sty j) 1 v' n (S.xs j ++ [y])) (hgrow : wm.grownBy w3 (S.sl j).ownBlock) (hwhere : ∀ b, v'.ownBlock = some b → (S.sl j).ownBlock = some b ∨ w.heap.size ≤ b) (hlo : lo ≤ w.heap.size) : SHM lo (w3.setCell ⟨k, j, none⟩ v') k (S.setS j v' (S.xs j ++ [y])) ∧ Only (S.U k j) w (w3.setCell ⟨k, j, none⟩ v') :=
  h.push hj hn oa hown hgrow hwhere hlo (rz := S.rz) (fun s hs => by
    have e : (S.setS j v' (S.xs j ++ [y])).xs (2 + s) = S.xs (2 + s) := if_neg (hjr s hs)
    rw [e]
    exact ⟨(h.row s hs).1, fun t z r hz hr => .inr ⟨hz, hr⟩⟩)
/-- Rows of session s grown by a table's. -/
theorem SHM.pushR {s : Nat} (h : SHM lo w k S) (hs : s < 4) {wm w3 : World} {v' y : Value} {rr : List (List Vl)} {us : List Value} (hy : RK lo w y rr us) {n : Nat} (hn : n = (S.xs (2 + s)).length + 1) (oa : Only (fun _ => False) w wm) (hown : w3.ownsRow 0 48 1 v' n (S.xs (2 + s) ++ [y])) (hgrow : wm.grownBy w3 (S.sl (2 + s)).ownBlock) (hwhere : ∀ b, v'.ownBlock = some b → (S.sl (2 + s)).ownBlock = some b ∨ w.heap.size ≤ b) (hlo : lo ≤ w.heap.size) : SHM lo (w3.setCell ⟨k, 2 + s, none⟩ v') k { S.setS (2 + s) v' (S.xs (2 + s) ++ [y]) with rz := fun i => if i = s then S.rz s ++ [rr] else S.rz i } ∧ Only (S.U k (2 + s)) w (w3.setCell ⟨k, 2 + s, none⟩ v') := by
  have hst : sty (2 + s) = 48 := by unfold sty; rw [if_neg (by omega), if_neg (by omega), if_pos (by omega)]
  refine h.push (by omega) hn oa (by rw [hst]; exact hown) hgrow hwhere hlo (fun u hu => ?_)
  by_cases e : u = s
  · subst e
    have ex : (S.setS (2 + u) v' (S.xs (2 + u) ++ [y])).xs (2 + u) = S.xs (2 + u) ++ [y] := if_pos rfl
    have er : (if u = u then S.rz u ++ [rr] else S.rz u) = S.rz u ++ [rr] := if_pos rfl
    simp only [ex]
    rw [if_pos trivial]
    have hl := (h.row u hu).1
    refine ⟨by rw [List.length_append, List.length_append, hl]; rfl, fun t z r hz hr => ?_⟩
    by_cases c : t < (S.xs (2 + u)).length
    · rw [List.getElem?_append_left c] at hz
      rw [List.getElem?_append_left (by omega)] at hr
      exact .inr ⟨hz, hr⟩
    · rw [List.getElem?_append_right (by omega)] at hz
      rw [List.getElem?_append_right (by omega)] at hr
      have ht : t - (S.xs (2 + u)).length = 0 := by
        have := (List.getElem?_eq_some_iff.mp hz).1
        simp at this
        omega
      have ht2 : t - (S.rz u).length = 0 := by omega
      rw [ht] at hz
      rw [ht2] at hr
      have ez : y = z := by simpa using hz
      have er' : rr = r := by simpa using hr
      subst ez er'
      exact .inl ⟨us, hy⟩
  · have ex : (S.setS (2 + s) v' (S.xs (2 + s) ++ [y])).xs (2 + u) = S.xs (2 + u) := if_neg (by omega)
    simp only [ex]
    rw [if_neg e]
    exact ⟨(h.row u hu).1, fun t z r hz hr => .inr ⟨hz, hr⟩⟩
end
/-- How many tables of session u are in the shot. -/
def cN (n s t u : Nat) : Nat := if u < s then n else if u = s then t else 0
/-- The shot while it is taken. -/
structure LkI (M : Mu) (np sa : Nat) (cr cl : Nat → Nat) (S : Sx) : Prop where
  nm : S.xs 0 = (namesD M.com).map Value.string
  pk : S.xs 1 = (M.com.take np).map (fun t => Value.int .i64 (t.pk : Int))
  rows : ∀ u, u < 4 → S.rz u = (M.com.take (cr u)).map (fun t => M.rows u t.nm)
  lk : ∀ u, u < 4 → S.xs (6 + u) = (M.com.take (cl u)).map (fun t => Value.int .i64 (M.lk u t.nm))
  act : ∀ u, u < sa → S.act u = M.act u
def LK (lo : Nat) (w : World) (k : Nat) (M : Mu) (np sa : Nat) (cr cl : Nat → Nat) : Prop := ∃ S, SHM lo w k S ∧ LkI M np sa cr cl S
/-- The walk of Look. -/
structure LkW (q : Gnd) (w0 : World) (g x k : Nat) (M : Mu) (K : Nat → Prop) (np sa : Nat) (cr cl : Nat → Nat) (w : World) : Prop where
  lk : LK w0.heap.size w k M np sa cr cl
  rx : RX q w g x M K
  on : Only (fun b => q.S b ∨ w0.heap.size ≤ b) w0 w
  far : ∀ b, w0.heap.size ≤ b → ¬ q.S b ∧ ¬ q.A b ∧ b ≠ x ∧ ¬ K b
section
variable {q : Gnd} {w0 w w' : World} {g x k : Nat} {M : Mu} {K : Nat → Prop} {np sa : Nat} {cr cl : Nat → Nat} {T : Tb} {s t : Nat}
theorem LkW.obs (h : LkW q w0 g x k M K np sa cr cl w) (R : RX q w' g x M K) (o : Only q.S w w') : LkW q w0 g x k M K np sa cr cl w' := by
  obtain ⟨S, h1, h2⟩ := h.lk
  exact ⟨⟨S, h1.keep o (fun b hb => (h.far b hb).1), h2⟩, R, h.on.trans o (fun _ _ e => .inl e), h.far⟩
theorem LkW.quiet (h : LkW q w0 g x k M K np sa cr cl w) (o : Only (fun _ => False) w w') : LkW q w0 g x k M K np sa cr cl w' := by
  obtain ⟨S, h1, h2⟩ := h.lk
  exact ⟨⟨S, h1.quiet o, h2⟩, h.rx.quiet o, h.on.trans (o.mono (fun _ _ e => e.elim)) (fun _ _ e => e), h.far⟩
theorem LkW.step {B : Nat → Prop} {np' sa' : Nat} {cr' cl' : Nat → Nat} (h : LkW q w0 g x k M K np sa cr cl w) (l : LK w0.heap.size w' k M np' sa' cr' cl') (o : Only B w w') (hB : ∀ b, B b → w0.heap.size ≤ b) : LkW q w0 g x k M K np' sa' cr' cl' w' := by
  refine ⟨l, h.rx.keep o (fun b hb c => ?_), h.on.trans o (fun b _ e => .inr (hB b e)), h.far⟩
  have f := h.far b (hB b c)
  rcases hb with d | d | d
  · exact f.2.1 d
  · exact f.2.2.1 d
  · exact f.2.2.2 d
theorem SHM.ulo {lo : Nat} {S : Sx} {j : Nat} (h : SHM lo w k S) (hj : j < 10) : ∀ b, S.U k j b → lo ≤ b := by
  rintro b (e | e)
  · exact h.new b (.inl e)
  · exact h.new b (.inr ⟨j, hj, e⟩)
theorem LkW.sz (h : LkW q w0 g x k M K np sa cr cl w) : w0.heap.size ≤ w.heap.size := h.on.size
theorem LkW.kl (h : LkW q w0 g x k M K np sa cr cl w) : k < w.heap.size := by
  obtain ⟨S, h1, _⟩ := h.lk
  exact h1.lt
theorem LkW.nmAt (h : LkW q w0 g x k M K np sa cr cl w) (ht : M.com[t]? = some T) : ∃ gn cap, w.cell? ⟨k, 0, none⟩ = some (.slice (some ⟨gn, 0, none⟩) M.com.length cap) ∧ w.cell? ⟨gn, t, none⟩ = some (.string T.nm) ∧ gn < w.heap.size := by
  obtain ⟨S, h1, h2⟩ := h.lk
  obtain ⟨gn, cap, e, hc⟩ := h1.at_ (j := 0) (i := t) (by omega) (x := .string T.nm) (by rw [h2.nm]; simp [namesD, ht])
  have hl : (S.xs 0).length = M.com.length := by rw [h2.nm]; simp [namesD]
  rw [hl] at e
  exact ⟨gn, cap, by rw [h1.slc (by omega), e], hc, World.block_lt_of_cell? w ⟨gn, t, none⟩ hc⟩
theorem LkW.names (h : LkW q w0 g x k M K np sa cr cl w) : ∃ a cap, w.cell? ⟨k, 0, none⟩ = some (.slice a M.com.length cap) := by
  obtain ⟨S, h1, h2⟩ := h.lk
  obtain ⟨a, cap, e⟩ := ownsRow_shape (h1.own 0 (by omega))
  have hl : (S.xs 0).length = M.com.length := by rw [h2.nm]; simp [namesD]
  rw [hl] at e
  exact ⟨a, cap, by rw [h1.slc (by omega), e]⟩
theorem take_snoc {α β : Type} (f : α → β) {l : List α} {t : Nat} {T : α} (h : l[t]? = some T) : (l.take (t + 1)).map f = (l.take t).map f ++ [f T] := by
  rw [List.take_add_one, h, List.map_append]
  rfl
/-- What an append to slice j needs, and what it leaves. -/
def ApK (q : Gnd) (w0 : World) (g x k : Nat) (M : Mu) (K : Nat → Prop) (np sa : Nat) (cr cl : Nat → Nat) (w : World) (j : Nat) (ty : TypeId) (y : Value) (m : Nat) (np' : Nat) (cr' cl' : Nat → Nat) : Prop :=
  ∃ a cap xs, w.cell? ⟨k, j, none⟩ = some (.slice a m cap) ∧ w.frozen? ⟨k, j, none⟩ = false ∧ w.ownsRow 0 ty 1 (.slice a m cap) m xs ∧ (Value.slice a m cap).ownBlock ≠ some k ∧
    ∀ (wm w3 : World) (v' : Value), Only (fun _ => False) w wm → w3.ownsRow 0 ty 1 v' (m + 1) (xs ++ [y]) → wm.grownBy w3 (Value.slice a m cap).ownBlock → (∀ b, v'.ownBlock = some b → (Value.slice a m cap).ownBlock = some b ∨ w.heap.size ≤ b) → LkW q w0 g x k M K np' sa cr' cl' (w3.setCell ⟨k, j, none⟩ v')
theorem LkW.apPk (h : LkW q w0 g x k M K t sa cr cl w) (hT : M.com[t]? = some T) : ApK q w0 g x k M K t sa cr cl w 1 3 (.int .i64 (T.pk : Int)) t (t + 1) cr cl := by
  have hlo := h.sz
  obtain ⟨S, h1, h2⟩ := h.lk
  have ho := h1.own 1 (by omega)
  have hl : (S.xs 1).length = t := by rw [h2.pk]; simp; have := (List.getElem?_eq_some_iff.mp hT).1; omega
  rw [hl] at ho
  obtain ⟨a, cap, e⟩ := ownsRow_shape ho
  refine ⟨a, cap, S.xs 1, by rw [h1.slc (by omega), e], h1.fr 1, by rw [← e]; exact ho, fun c => h1.kne (j := 1) (by omega) (by rw [e]; exact c) rfl, fun wm w3 v' oa hown hg hw => ?_⟩
  have p := h1.pushN (j := 1) (by omega) (fun s hs => by omega) (by rw [hl]) oa hown (by rw [e]; exact hg) (by rw [e]; exact hw) hlo
  refine h.step ⟨_, p.1, ⟨h2.nm, ?_, h2.rows, fun u hu => Eq.trans (if_neg (by omega)) (h2.lk u hu), h2.act⟩⟩ p.2 (h1.ulo (by omega))
  show S.xs 1 ++ [_] = _
  rw [h2.pk, take_snoc _ hT]
theorem LkW.apLk (h : LkW q w0 g x k M K np sa cr cl w) (hs : s < 4) (hc : cl s = t) (hT : M.com[t]? = some T) : ApK q w0 g x k M K np sa cr cl w (6 + s) 3 (.int .i64 (M.lk s T.nm)) t np cr (fun u => if u = s then t + 1 else cl u) := by
  have hlo := h.sz
  obtain ⟨S, h1, h2⟩ := h.lk
  have hst : sty (6 + s) = 3 := by unfold sty; rw [if_neg (by omega), if_neg (by omega), if_neg (by omega)]
  have ho := h1.own (6 + s) (by omega)
  rw [hst] at ho
  have hl : (S.xs (6 + s)).length = t := by rw [h2.lk s hs, hc]; simp; have := (List.getElem?_eq_some_iff.mp hT).1; omega
  rw [hl] at ho
  obtain ⟨a, cap, e⟩ := ownsRow_shape ho
  refine ⟨a, cap, S.xs (6 + s), by rw [h1.slc (by omega), e], h1.fr _, by rw [← e]; exact ho, fun c => h1.kne (j := 6 + s) (by omega) (by rw [e]; exact c) rfl, fun wm w3 v' oa hown hg hw => ?_⟩
  have p := h1.pushN (j := 6 + s) (by omega) (fun s' hs' => by omega) (by rw [hl]) oa (by rw [hst]; exact hown) (by rw [e]; exact hg) (by rw [e]; exact hw) hlo
  refine h.step ⟨_, p.1, ⟨?_, ?_, h2.rows, fun u hu => ?_, h2.act⟩⟩ p.2 (h1.ulo (by omega))
  · exact Eq.trans (if_neg (by omega)) h2.nm
  · exact Eq.trans (if_neg (by omega)) h2.pk
  · show (if 6 + u = 6 + s then S.xs (6 + s) ++ [_] else S.xs (6 + u)) = _
    by_cases c : u = s
    · subst c
      rw [if_pos rfl, if_pos rfl, h2.lk u hu, hc, take_snoc _ hT]
    · rw [if_neg (by omega), if_neg c, h2.lk u hu]
theorem LkW.apRow (h : LkW q w0 g x k M K np sa cr cl w) (hs : s < 4) (hc : cr s = t) (hT : M.com[t]? = some T) {y : Value} {us : List Value} (hy : RK w0.heap.size w y (M.rows s T.nm) us) : ApK q w0 g x k M K np sa cr cl w (2 + s) 48 y t np (fun u => if u = s then t + 1 else cr u) cl := by
  have hlo := h.sz
  obtain ⟨S, h1, h2⟩ := h.lk
  have hst : sty (2 + s) = 48 := by unfold sty; rw [if_neg (by omega), if_neg (by omega), if_pos (by omega)]
  have ho := h1.own (2 + s) (by omega)
  rw [hst] at ho
  have hl : (S.xs (2 + s)).length = t := by rw [(h1.row s hs).1, h2.rows s hs, hc]; simp; have := (List.getElem?_eq_some_iff.mp hT).1; omega
  rw [hl] at ho
  obtain ⟨a, cap, e⟩ := ownsRow_shape ho
  refine ⟨a, cap, S.xs (2 + s), by rw [h1.slc (by omega), e], h1.fr _, by rw [← e]; exact ho, fun c => h1.kne (j := 2 + s) (by omega) (by rw [e]; exact c) rfl, fun wm w3 v' oa hown hg hw => ?_⟩
  have p := h1.pushR hs hy (by rw [hl]) oa hown (by rw [e]; exact hg) (by rw [e]; exact hw) hlo
  refine h.step ⟨_, p.1, ⟨?_, ?_, fun u hu => ?_, fun u hu => ?_, h2.act⟩⟩ p.2 (h1.ulo (by omega))
  · exact Eq.trans (if_neg (by omega)) h2.nm
  · exact Eq.trans (if_neg (by omega)) h2.pk
  · show (if u = s then S.rz s ++ [_] else S.rz u) = _
    by_cases c : u = s
    · subst c
      rw [if_pos rfl, if_pos rfl, h2.rows u hu, hc, take_snoc _ hT]
    · rw [if_neg c, if_neg c, h2.rows u hu]
  · exact Eq.trans (if_neg (by omega)) (h2.lk u hu)
theorem LkW.setA (h : LkW q w0 g x k M K np s cr cl w) (hs : s < 4) : LkW q w0 g x k M K np (s + 1) cr cl (w.setCell ⟨k, 10 + s, none⟩ (.bool (M.act s))) := by
  obtain ⟨S, h1, h2⟩ := h.lk
  refine h.step ⟨_, h1.setA hs (M.act s), ⟨h2.nm, h2.pk, h2.rows, h2.lk, fun u hu => ?_⟩⟩ (only1 (p := k) _ _) (fun b e => h1.new b (.inl e))
  show (if u = s then M.act s else S.act u) = _
  by_cases c : u = s
  · rw [if_pos c, c]
  · rw [if_neg c]; exact h2.act u (by omega)
theorem LkW.actc (h : LkW q w0 g x k M K np sa cr cl w) (hs : s < 4) : (∃ b, w.cell? ⟨k, 10 + s, none⟩ = some (.bool b)) ∧ w.frozen? ⟨k, 10 + s, none⟩ = false := by
  obtain ⟨S, h1, _⟩ := h.lk
  exact ⟨⟨_, h1.actc hs⟩, h1.fr _⟩
theorem LkW.re {cr' cl' : Nat → Nat} (h : LkW q w0 g x k M K np sa cr cl w) (hr : ∀ u, u < 4 → M.com.take (cr' u) = M.com.take (cr u)) (hl : ∀ u, u < 4 → M.com.take (cl' u) = M.com.take (cl u)) : LkW q w0 g x k M K np sa cr' cl' w := by
  obtain ⟨S, h1, h2⟩ := h.lk
  exact ⟨⟨S, h1, h2.nm, h2.pk, fun u hu => by rw [h2.rows u hu, hr u hu], fun u hu => by rw [h2.lk u hu, hl u hu], h2.act⟩, h.rx, h.on, h.far⟩
/-- What Look leaves. -/
def LoP (q : Gnd) (w : World) (g x : Nat) (M : Mu) (K : Nat → Prop) (e : Ending) (w' : World) : Prop := ∃ k, e = .returned (.pointer (some ⟨k, 0, none⟩)) ∧ w.heap.size ≤ k ∧ Sht w.heap.size w' k M ∧ RX q w' g x M K ∧ Only q.S w w'
theorem LkW.done (h : LkW q w g x k M K M.com.length 4 (fun _ => M.com.length) (fun _ => M.com.length) w') : LoP q w g x M K (.returned (.pointer (some ⟨k, 0, none⟩))) w' := by
  obtain ⟨S, h1, h2⟩ := h.lk
  refine ⟨k, rfl, h1.new k (.inl rfl), ⟨S, h1, ⟨h2.nm, ?_, fun s hs => ?_, fun s hs => ?_, fun s hs => h2.act s hs⟩⟩, h.rx, h.on.mono (fun b hb c => c.elim id (fun c => by omega))⟩
  · rw [h2.pk, List.take_length]
  · rw [h2.rows s hs, List.take_length]
  · rw [h2.lk s hs, List.take_length]
/-- The empty shot. -/
def Sx0 : Sx := ⟨fun _ => .slice none 0 0, fun _ => [], fun _ => [], fun _ => false⟩
theorem sx0_cells : tabV 14 (shcell Sx0) = #[.slice none 0 0, .slice none 0 0, .slice none 0 0, .slice none 0 0, .slice none 0 0, .slice none 0 0, .slice none 0 0, .slice none 0 0, .slice none 0 0, .slice none 0 0, .bool false, .bool false, .bool false, .bool false] := rfl
theorem SHM.zero (h : Has w k (tabV 14 (shcell Sx0)) 67) {lo : Nat} (hk : lo ≤ k) : SHM lo w k Sx0 := by
  refine ⟨h, fun j hj => World.ownsRow_nil _ _ _ _, fun i j hi hj hne b hb => (by cases hb), fun b hb => ?_, fun s hs => ⟨rfl, fun t z r hz => (by simp [Sx0] at hz)⟩⟩
  rcases hb with e | ⟨j, hj, e⟩
  · omega
  · cases e
/-- The names stored. -/
theorem SHM.names {lo z n : Nat} {N : List ByteArray} (h : SHM lo w k Sx0) (hlo : lo ≤ w.heap.size) {w1 : World} (o : Only (fun _ => False) w w1) (hN : OwnN w1 (.slice (some ⟨z, 0, none⟩) n n) N) (hz : w.heap.size ≤ z) : SHM lo (w1.setCell ⟨k, 0, none⟩ (.slice (some ⟨z, 0, none⟩) n n)) k (Sx0.setS 0 (.slice (some ⟨z, 0, none⟩) n n) (N.map Value.string)) := by
  have o1 : Only (fun b => b = k) w1 (w1.setCell ⟨k, 0, none⟩ (.slice (some ⟨z, 0, none⟩) n n)) := only1 _ _
  have kl := h.lt
  refine h.setS (j := 0) (by omega) ((o.mono (T := Sx0.U k 0) (fun _ _ e => e.elim)).trans o1 (fun b _ e => .inl e)) (SHM.hasS (h.has.keep o (fun e => e)) (by omega) _ _) ?_ (fun b hb => .inr ?_) hlo (rz := Sx0.rz) (fun s hs => ⟨?_, fun t z' r hz => ?_⟩)
  · have e : (N.map Value.string).length = N.length := List.length_map _
    rw [e]
    refine ownsRow_keep (show w1.ownsRow 0 (sty 0) 1 _ N.length (N.map Value.string) from hN) o1 (fun b hb e => ?_)
    have e' : b = k := e
    simp [Value.ownBlock] at hb
    omega
  · simp [Value.ownBlock] at hb
    omega
  · exact congrArg List.length (if_neg (by omega) : (Sx0.setS 0 (.slice (some ⟨z, 0, none⟩) n n) (N.map Value.string)).xs (2 + s) = Sx0.xs (2 + s))
  · have e : (Sx0.setS 0 (.slice (some ⟨z, 0, none⟩) n n) (N.map Value.string)).xs (2 + s) = Sx0.xs (2 + s) := if_neg (by omega)
    rw [e] at hz
    simp [Sx0] at hz
end
end Go.Proofs.Qxb6500414aGreat
