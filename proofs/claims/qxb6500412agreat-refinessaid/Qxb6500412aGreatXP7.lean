/-
  OWN WORK. TXN, plain: THE ABSTRACT STATE: what is committed, who is in a transaction, the locks by name, the database that each session sees. No program in sight.
-/
import Derived.Test.Qxb6500412aGreatXP6
namespace Go.Proofs.Qxb6500412aGreat
open Go.RowKit Go.PlainAid
set_option linter.unusedSimpArgs false
set_option linter.unusedVariables false

structure Mu where
  com : Db
  act : Nat → Bool
  lk : Nat → ByteArray → Int
  see : Nat → Db
def Mu.inT (M : Mu) (s : Int) : Int := if gdS s then (if M.act s.toNat = true then 0 else 2) else 20
/-- Another session bars the mode. -/
def Mu.bars (M : Mu) (s : Nat) (nm : ByteArray) (mode : Int) : Prop := ∃ o, o < 4 ∧ o ≠ s ∧ (M.lk o nm = 2 ∨ (mode = 2 ∧ M.lk o nm ≠ 0))
/-- What taking a lock answers. -/
def Mu.TkZ (M : Mu) (s : Int) (nm : ByteArray) (mode z : Int) : Prop := (M.inT s ≠ 0 ∧ z = M.inT s) ∨ (M.inT s = 0 ∧ findD M.com nm = none ∧ z = 10) ∨ (M.inT s = 0 ∧ findD M.com nm ≠ none ∧ M.bars s.toNat nm mode ∧ z = 21) ∨ (M.inT s = 0 ∧ findD M.com nm ≠ none ∧ ¬ M.bars s.toNat nm mode ∧ z = 0)
def Mu.setL (M : Mu) (s : Nat) (nm : ByteArray) (mode : Int) : Mu := { M with lk := fun o n => if o = s ∧ n = nm ∧ M.lk s nm < mode then mode else M.lk o n }
def Mu.setV (M : Mu) (s : Nat) (D : Db) : Mu := { M with see := fun o => if o = s then D else M.see o }
def Mu.begin (M : Mu) (s : Nat) : Mu := { M with act := fun o => if o = s then true else M.act o }
/-- The tables that are held for writing, out of E; the others out of C. -/
def mixD (L : ByteArray → Int) (E C : Db) : Db := C.map (fun t => if L t.nm = 2 then (findD E t.nm).getD t else t)
def Mu.roll (M : Mu) (s : Nat) : Mu := { M with act := fun o => if o = s then false else M.act o, lk := fun o n => if o = s then 0 else M.lk o n, see := fun o => if o = s then M.com else M.see o }
def Mu.commit (M : Mu) (s : Nat) : Mu := { com := M.see s, act := fun o => if o = s then false else M.act o, lk := fun o n => if o = s then 0 else M.lk o n, see := fun o => if o = s then M.see s else mixD (M.lk o) (M.see o) (M.see s) }
def Mu.schema (M : Mu) (D : Db) : Mu := { M with com := D, see := fun _ => D }
def Mu.any (M : Mu) : Prop := ∃ o, o < 4 ∧ M.act o = true
def Mu.AlZ (M : Mu) (s z : Int) : Prop := (¬ gdS s ∧ z = 20) ∨ (gdS s ∧ M.act s.toNat = true ∧ z = 3) ∨ (gdS s ∧ M.act s.toNat = false ∧ M.any ∧ z = 21) ∨ (gdS s ∧ ¬ M.any ∧ z = 0)
/-- The manager shows the state. -/
structure Shw (X : Xs) (D : Db) (M : Mu) : Prop where
  com : M.com = D
  act : ∀ s, s < 4 → M.act s = X.act s
  lk : ∀ s nm, s < 4 → M.lk s nm = X.lk s nm
  see : ∀ s, s < 4 → M.see s = seeD (X.ws s) D
/-- The manager is sound. -/
structure XOk (X : Xs) (D : Db) : Prop where
  db : DGd D
  lk : LkOk X D
  ws : ∀ s, s < 4 → WsG (X.ws s) D
  wl : ∀ s, s < 4 → ∀ c ∈ X.ws s, X.lk s c.d.tab = 2
  idle : ∀ s, s < 4 → X.act s = false → X.ws s = []
theorem nodup_le {α : Type} : ∀ (l m : List α), l.Nodup → (∀ x ∈ l, x ∈ m) → l.length ≤ m.length
  | [], m, _, _ => by simp
  | x :: l, m, hn, h => by
    obtain ⟨a, b, rfl⟩ := List.append_of_mem (h x (by simp))
    have hn' := List.nodup_cons.mp hn
    have := nodup_le l (a ++ b) hn'.2 (fun y hy => by
      have := h y (List.mem_cons_of_mem _ hy)
      rw [List.mem_append, List.mem_cons] at this
      rw [List.mem_append]
      rcases this with e | e | e
      · exact .inl e
      · exact absurd (by rw [← e]; exact hy) hn'.1
      · exact .inr e)
    simp at this ⊢
    omega
section
variable {l : List WCh} {D : Db} {t : Tb}
/-- A table's words are few. -/
theorem WsG.few (h : WsG l D) (G : DGd D) (ht : t ∈ D) : (l.filter (fun c => decide (c.d.tab = t.nm))).length ≤ 16 := by
  have ok := G.tb t ht
  have hl := h.o.loc G ht
  have hnd := h.o.up
  have key : ∀ b : Bool, (l.filter (fun c => decide (c.d.tab = t.nm) && decide (c.d.gone = b))).length ≤ 8 := by
    intro b
    have hnd2 : ((l.filter (fun c => decide (c.d.tab = t.nm) && decide (c.d.gone = b))).map (fun c => cV c.d.key)).Nodup := by
      unfold List.Nodup
      rw [List.pairwise_map]
      refine (hl.ne.sublist List.filter_sublist).imp_of_mem (fun {x y} hx hy hxy => ?_)
      have hx2 := (List.mem_filter.mp hx).2
      have hy2 := (List.mem_filter.mp hy).2
      simp only [Bool.and_eq_true, decide_eq_true_eq] at hx2 hy2
      exact hxy hx2.1 hy2.1
    cases b with
    | true =>
      have := nodup_le _ (t.rows.map (pkK t.pk)) hnd2 (fun k hk => by
        obtain ⟨c, hc, rfl⟩ := List.mem_map.mp hk
        have hc2 := List.mem_filter.mp hc
        simp only [Bool.and_eq_true, decide_eq_true_eq] at hc2
        obtain ⟨_, r, hr, e⟩ := (h.o.at G ht hc2.1 hc2.2.1).gone hc2.2.2
        exact List.mem_map.mpr ⟨r, hr, e⟩)
      rw [List.length_map, List.length_map] at this
      exact Nat.le_trans this ok.len
    | false =>
      have := nodup_le _ ((seeT l t).rows.map (pkK t.pk)) hnd2 (fun k hk => by
        obtain ⟨c, hc, rfl⟩ := List.mem_map.mp hk
        have hc2 := List.mem_filter.mp hc
        simp only [Bool.and_eq_true, decide_eq_true_eq] at hc2
        exact List.mem_map.mpr ⟨c.d.row, (h.o.mem G ht _).mpr (.inl ⟨c, hc2.1, hc2.2.1, hc2.2.2, rfl⟩), hl.row c hc2.1 hc2.2.1 hc2.2.2⟩)
      rw [List.length_map, List.length_map] at this
      exact Nat.le_trans this (h.len t ht)
  have e : ∀ m : List WCh, (m.filter (fun c => decide (c.d.tab = t.nm))).length = (m.filter (fun c => decide (c.d.tab = t.nm) && decide (c.d.gone = true))).length + (m.filter (fun c => decide (c.d.tab = t.nm) && decide (c.d.gone = false))).length := by
    intro m
    induction m with
    | nil => rfl
    | cons x r ih =>
      simp only [List.filter_cons]
      cases c1 : decide (x.d.tab = t.nm) <;> cases c2 : x.d.gone <;> simp at ih ⊢ <;> omega
  rw [e]
  have := key true
  have := key false
  omega
theorem len_tabs : ∀ (D : Db) (l : List WCh), (∀ c ∈ l, ∃ t ∈ D, t.nm = c.d.tab) → (∀ t ∈ D, (l.filter (fun c => decide (c.d.tab = t.nm))).length ≤ 16) → l.length ≤ 16 * D.length
  | [], l, h, _ => by
    cases l with
    | nil => simp
    | cons c r => obtain ⟨t, ht, _⟩ := h c (by simp); simp at ht
  | t :: D, l, h, h16 => by
    have h1 := h16 t (by simp)
    have h2 := len_tabs D (l.filter (fun c => !decide (c.d.tab = t.nm))) (fun c hc => by
      obtain ⟨hc1, hc2⟩ := List.mem_filter.mp hc
      obtain ⟨u, hu, e⟩ := h c hc1
      rcases List.mem_cons.mp hu with rfl | hu
      · rw [e] at hc2; simp at hc2
      · exact ⟨u, hu, e⟩) (fun u hu => by
      refine Nat.le_trans ?_ (h16 u (List.mem_cons_of_mem _ hu))
      rw [List.filter_filter]
      have : ∀ m : List WCh, (m.filter (fun c => decide (c.d.tab = u.nm) && !decide (c.d.tab = t.nm))).length ≤ (m.filter (fun c => decide (c.d.tab = u.nm))).length := by
        intro m
        induction m with
        | nil => simp
        | cons x r ih =>
          simp only [List.filter_cons]
          cases decide (x.d.tab = u.nm) <;> cases decide (x.d.tab = t.nm) <;> simp <;> omega
      exact this l)
    have e : ∀ m : List WCh, m.length = (m.filter (fun c => decide (c.d.tab = t.nm))).length + (m.filter (fun c => !decide (c.d.tab = t.nm))).length := by
      intro m
      induction m with
      | nil => rfl
      | cons x r ih =>
        simp only [List.filter_cons]
        cases decide (x.d.tab = t.nm) <;> simp <;> omega
    have := e l
    simp only [List.length_cons]
    omega
theorem WsG.short (h : WsG l D) (G : DGd D) : l.length ≤ 48 := by
  have := len_tabs D l (fun c hc => by obtain ⟨t, ht, e, _⟩ := h.o.ok c hc; exact ⟨t, ht, e⟩) (fun t ht => h.few G ht)
  have := G.len
  omega
theorem WsG.narrow (h : WsG l D) (G : DGd D) : ∀ c ∈ l, c.d.row.length ≤ 3 := by
  intro c hc
  obtain ⟨t, ht, e, k⟩ := h.o.ok c hc
  cases hg : c.d.gone with
  | true => rw [(k.gone hg).1]; simp
  | false => rw [(k.row hg).1.len]; exact (G.tb t ht).n3
end
section
variable {X : Xs} {D : Db} {M : Mu} {nm : ByteArray} {s i : Nat}
theorem XOk.bounds (h : XOk X D) : ∀ s, s < 4 → (X.ws s).length ≤ 100 ∧ ∀ c ∈ X.ws s, c.d.row.length ≤ 1000 := fun s hs =>
  ⟨Nat.le_trans ((h.ws s hs).short h.db) (by omega), fun c hc => Nat.le_trans ((h.ws s hs).narrow h.db c hc) (by omega)⟩
theorem Shw.inT (h : Shw X D M) (s : Int) : M.inT s = inTx X s := by
  unfold Mu.inT inTx
  by_cases g : gdS s
  · rw [if_pos g, if_pos g, h.act s.toNat (by have := g.1; have := g.2; omega)]
  · rw [if_neg g, if_neg g]
theorem in_good {X : Xs} {s : Int} (h : inTx X s = 0) : ∃ n : Nat, s = n ∧ n < 4 ∧ X.act n = true := by
  unfold inTx at h
  by_cases g : gdS s
  · rw [if_pos g] at h
    have h1 := g.1
    have h2 := g.2
    refine ⟨s.toNat, by omega, by omega, ?_⟩
    cases c : X.act s.toNat with
    | true => rfl
    | false => rw [c] at h; simp at h
  · rw [if_neg g] at h; cases h
theorem dbT_mem {T : List (Tb × Hd)} {nm : ByteArray} : (∃ y ∈ T, y.1.nm = nm) ↔ findD (dbOf T) nm ≠ none := by
  constructor
  · rintro ⟨y, hy, e⟩ hn
    exact find_none hn y hy e
  · intro h
    cases c : findD (dbOf T) nm with
    | none => exact absurd c h
    | some t =>
      obtain ⟨hd, h1, h2⟩ := find_some c
      exact ⟨_, h1, h2⟩
/-- A lock refused. -/
theorem XOk.tkE {T : List (Tb × Hd)} (h : XOk X (dbOf T)) (S : Shw X (dbOf T) M) {s mode z : Int} (hz : TkE X T s nm mode z) : M.TkZ s nm mode z ∧ z ≠ 0 := by
  refine ⟨?_, hz.1⟩
  obtain ⟨h0, hc⟩ := hz
  unfold Mu.TkZ
  rw [S.inT, S.com]
  rcases hc with hc | ⟨h1, rfl, h2⟩ | ⟨h1, h2, rfl, i, hi, hsl, hb⟩ | ⟨h1, h2, rfl, hsl, hfs⟩
  · exact .inl ⟨by rw [hc]; exact h0, hc.symm⟩
  · refine .inr (.inl ⟨h1, ?_, rfl⟩)
    cases c : findD (dbOf T) nm with
    | none => rfl
    | some t =>
      obtain ⟨hd, hm, e⟩ := find_some c
      exact absurd e (h2 _ hm)
  · refine .inr (.inr (.inl ⟨h1, dbT_mem.mp h2, ?_, rfl⟩))
    obtain ⟨n, rfl, hn, _⟩ := in_good h1
    rcases hsl with ⟨e, _⟩ | ⟨j, hj, e, hbr, _⟩
    · omega
    · obtain rfl : i = j := by omega
      obtain ⟨o, ho, hne, hx⟩ := (h.lk.bar hi hbr (n : Int) mode).mp hb
      refine ⟨o, ho, ?_, ?_⟩
      · show o ≠ (n : Int).toNat
        omega
      · rw [S.lk o nm ho]; exact hx
  · exfalso
    obtain ⟨y, hy, e⟩ := h2
    have hf : ∀ i, i < 3 → X.us i = true := by
      rcases hfs with ⟨_, hf⟩ | ⟨j, _, e, _⟩
      · exact hf
      · omega
    obtain ⟨i, hi, hb⟩ := h.lk.room h.db hf (t := y.1) (List.mem_map.mpr ⟨y, hy, rfl⟩)
    rcases hsl with ⟨_, hn⟩ | ⟨j, _, e, _⟩
    · exact hn i hi (by rw [← e]; exact hb)
    · omega
theorem Xs.tk_ws (X : Xs) (i s : Nat) (nm : ByteArray) (mode : Int) : (X.tk i s nm mode).ws = X.ws ∧ (X.tk i s nm mode).act = X.act := by
  unfold Xs.tk
  split <;> exact ⟨rfl, rfl⟩
/-- A lock taken. -/
theorem XOk.tkI (h : XOk X D) (S : Shw X D M) {mode : Int} (hm : mode = 1 ∨ mode = 2) {s : Int} (h0 : inTx X s = 0) (ht : ∃ t ∈ D, t.nm = nm) (hi : TkI X s nm mode i) : M.TkZ s nm mode 0 ∧ XOk (X.tk i s.toNat nm mode) D ∧ Shw (X.tk i s.toNat nm mode) D (M.setL s.toNat nm mode) := by
  obtain ⟨n, rfl, hn, ha⟩ := in_good h0
  have e : ((n : Nat) : Int).toNat = n := by omega
  rw [e]
  obtain ⟨k1, k2⟩ := h.lk.tk hm hn ha ht hi
  obtain ⟨w1, w2⟩ := X.tk_ws i n nm mode
  refine ⟨.inr (.inr (.inr ⟨by rw [S.inT]; exact h0, ?_, ?_, rfl⟩)), ⟨h.db, k1, fun o ho => by rw [w1]; exact h.ws o ho, fun o ho c hc => ?_, fun o ho => by rw [w1, w2]; exact h.idle o ho⟩, ⟨S.com, fun o ho => by rw [w2]; exact S.act o ho, fun o nm' ho => ?_, fun o ho => by rw [w1]; exact S.see o ho⟩⟩
  · rw [S.com]
    obtain ⟨t, ht, e⟩ := ht
    intro c
    exact findD_none c ht e
  · rintro ⟨o, ho, hne, hx⟩
    rw [S.lk o nm ho] at hx
    rw [e] at hne
    obtain ⟨hi3, hc⟩ := hi
    rcases hc with ⟨hs, hb⟩ | ⟨hs, _⟩
    · rcases hs with ⟨e2, _⟩ | ⟨j, hj, e2, hbr, _⟩
      · omega
      · obtain rfl : i = j := by omega
        have := (h.lk.bar hi3 hbr (n : Int) mode).mpr ⟨o, ho, by omega, hx⟩
        rw [hb] at this; cases this
    · rcases hs with ⟨_, hno⟩ | ⟨j, _, e2, _⟩
      · rw [Xs.lk_none hno] at hx
        rcases hx with hx | ⟨_, hx⟩
        · cases hx
        · exact hx rfl
      · omega
  · rw [w1] at hc
    rw [k2 o _ ho]
    have := h.wl o ho c hc
    split
    · rename_i hh
      rw [hh.1, hh.2.1] at this
      omega
    · exact this
  · rw [k2 o nm' ho]
    show (if o = n ∧ nm' = nm ∧ M.lk n nm < mode then mode else M.lk o nm') = _
    rw [S.lk n nm hn, S.lk o nm' ho]
theorem Xs.setW_lk (X : Xs) (s : Nat) (v : Value) (l : List WCh) (o : Nat) (nm : ByteArray) : (X.setW s v l).lk o nm = X.lk o nm := rfl
/-- Words said by a session that holds the table for writing. -/
theorem XOk.setW (h : XOk X D) (S : Shw X D M) (hs : s < 4) {l : List WCh} {v : Value} (hl : WsG l D) (hx : ∀ c ∈ l, c ∈ X.ws s ∨ X.lk s c.d.tab = 2) (ha : X.act s = true) : XOk (X.setW s v l) D ∧ Shw (X.setW s v l) D (M.setV s (seeD l D)) := by
  have e : ∀ o, (X.setW s v l).ws o = if o = s then l else X.ws o := fun _ => rfl
  refine ⟨⟨h.db, ⟨h.lk.held, h.lk.free, h.lk.tab, h.lk.one, h.lk.rng, h.lk.act, h.lk.excl⟩, fun o ho => ?_, fun o ho c hc => ?_, fun o ho hz => ?_⟩, ⟨S.com, S.act, S.lk, fun o ho => ?_⟩⟩
  · rw [e]
    split
    · exact hl
    · exact h.ws o ho
  · rw [Xs.setW_lk]
    rw [e] at hc
    by_cases c1 : o = s
    · rw [if_pos c1] at hc
      rw [c1]
      rcases hx c hc with h1 | h1
      · exact h.wl s hs c h1
      · exact h1
    · rw [if_neg c1] at hc
      exact h.wl o ho c hc
  · rw [e]
    have hz2 : X.act o = false := hz
    by_cases c1 : o = s
    · rw [c1, ha] at hz2; cases hz2
    · rw [if_neg c1]; exact h.idle o ho hz2
  · rw [e]
    show (if o = s then seeD l D else M.see o) = _
    by_cases c1 : o = s
    · rw [if_pos c1, if_pos c1]
    · rw [if_neg c1, if_neg c1]; exact S.see o ho
/-- Begin. -/
theorem XOk.begin (h : XOk X D) (S : Shw X D M) (hs : s < 4) (hn : X.act s = false) : XOk (X.setA s true) D ∧ Shw (X.setA s true) D (M.begin s) := by
  refine ⟨⟨h.db, ⟨h.lk.held, h.lk.free, h.lk.tab, h.lk.one, h.lk.rng, fun i o hi ho hz => ?_, h.lk.excl⟩, h.ws, h.wl, fun o ho hz => ?_⟩, ⟨S.com, fun o ho => ?_, S.lk, S.see⟩⟩
  · show (if o = s then true else X.act o) = true
    split
    · rfl
    · exact h.lk.act i o hi ho hz
  · have hz2 : (if o = s then true else X.act o) = false := hz
    by_cases c : o = s
    · rw [if_pos c] at hz2; cases hz2
    · rw [if_neg c] at hz2; exact h.idle o ho hz2
  · show (if o = s then true else M.act o) = (if o = s then true else X.act o)
    rw [S.act o ho]
theorem relN_ws (X : Xs) (s n : Nat) : (X.relN s n).ws = X.ws ∧ (X.relN s n).act = X.act := by
  induction n with
  | zero => exact ⟨rfl, rfl⟩
  | succ n ih =>
    show ((X.relN s n).rel1 s n).ws = _ ∧ ((X.relN s n).rel1 s n).act = _
    unfold Xs.rel1
    split
    · exact ih
    · exact ih
theorem endS_ws (X : Xs) (s : Nat) : (∀ o, (X.endS s).ws o = if o = s then [] else X.ws o) ∧ ∀ o, (X.endS s).act o = if o = s then false else X.act o := by
  unfold Xs.endS
  constructor
  · intro o; rw [(relN_ws _ s 3).1]; rfl
  · intro o; rw [(relN_ws _ s 3).2]; rfl
/-- Rollback. -/
theorem XOk.roll (h : XOk X D) (S : Shw X D M) (hs : s < 4) : XOk (X.endS s) D ∧ Shw (X.endS s) D (M.roll s) := by
  obtain ⟨k1, k2⟩ := h.lk.ends hs (v := .slice none 0 0) (l := [])
  have k1 : LkOk (X.endS s) D := k1
  have k2 : ∀ o n, o < 4 → (X.endS s).lk o n = if o = s then 0 else X.lk o n := k2
  obtain ⟨w1, w2⟩ := endS_ws X s
  refine ⟨⟨h.db, k1, fun o ho => ?_, fun o ho c hc => ?_, fun o ho hz => ?_⟩, ⟨S.com, fun o ho => ?_, fun o nm ho => ?_, fun o ho => ?_⟩⟩
  · rw [w1]
    split
    · exact WsG.nil h.db
    · exact h.ws o ho
  · rw [w1] at hc
    by_cases c1 : o = s
    · rw [if_pos c1] at hc; simp at hc
    · rw [if_neg c1] at hc
      rw [k2 o _ ho, if_neg c1]
      exact h.wl o ho c hc
  · rw [w1]
    rw [w2] at hz
    by_cases c1 : o = s
    · rw [if_pos c1]
    · rw [if_neg c1] at hz ⊢
      exact h.idle o ho hz
  · rw [w2, ← S.act o ho]; rfl
  · rw [k2 o nm ho, ← S.lk o nm ho]; rfl
  · rw [w1]
    show (if o = s then M.com else M.see o) = _
    by_cases c1 : o = s
    · rw [if_pos c1, if_pos c1, seeD_nil]; exact S.com
    · rw [if_neg c1, if_neg c1]; exact S.see o ho
/-- Two sessions have no words on one table. -/
theorem XOk.apart (h : XOk X D) {o : Nat} (hs : s < 4) (ho : o < 4) (hne : o ≠ s) {c e : WCh} (hc : c ∈ X.ws s) (he : e ∈ X.ws o) : c.d.tab ≠ e.d.tab := fun x => by
  have h1 := h.wl s hs c hc
  have h2 := h.wl o ho e he
  have h3 := h.lk.ex hs ho (fun y => hne y.symm) h1
  rw [x] at h3
  omega
/-- Commit. -/
theorem XOk.commit (h : XOk X D) (S : Shw X D M) (hs : s < 4) : XOk (X.endS s) (seeD (X.ws s) D) ∧ Shw (X.endS s) (seeD (X.ws s) D) (M.commit s) := by
  obtain ⟨k1, k2⟩ := h.lk.ends hs (v := .slice none 0 0) (l := [])
  have k1 : LkOk (X.endS s) D := k1
  have k2 : ∀ o n, o < 4 → (X.endS s).lk o n = if o = s then 0 else X.lk o n := k2
  obtain ⟨w1, w2⟩ := endS_ws X s
  have G2 := (h.ws s hs).see h.db
  have k3 : LkOk (X.endS s) (seeD (X.ws s) D) := ⟨k1.held, k1.free, fun i hi hu => by
    obtain ⟨t, ht, e⟩ := k1.tab i hi hu
    exact ⟨seeT (X.ws s) t, List.mem_map.mpr ⟨t, ht, rfl⟩, e⟩, k1.one, k1.rng, k1.act, k1.excl⟩
  -- another session's table is as it was
  have hsame : ∀ o, o < 4 → o ≠ s → ∀ c ∈ X.ws o, ∀ t ∈ D, t.nm = c.d.tab → seeT (X.ws s) t = t := by
    intro o ho hne c hc t ht e
    refine seeT_none (fun x hx => ?_)
    rw [e]
    exact h.apart hs ho hne hx hc
  have hWs : ∀ o, o < 4 → o ≠ s → WsG (X.ws o) (seeD (X.ws s) D) := by
    intro o ho hne
    have hw := h.ws o ho
    refine ⟨⟨hw.o.up, fun c hc => ?_⟩, fun u hu => ?_⟩
    · obtain ⟨t, ht, e, k⟩ := hw.o.ok c hc
      have := hsame o ho hne c hc t ht e
      exact ⟨t, List.mem_map.mpr ⟨t, ht, this⟩, e, k⟩
    · obtain ⟨t, ht, rfl⟩ := List.mem_map.mp hu
      by_cases hex : ∃ c ∈ X.ws o, c.d.tab = t.nm
      · obtain ⟨c, hc, e⟩ := hex
        rw [hsame o ho hne c hc t ht e.symm]
        exact hw.len t ht
      · rw [seeT_none (l := X.ws o) (t := seeT (X.ws s) t) (fun c hc e => hex ⟨c, hc, e⟩)]
        exact (h.ws s hs).len t ht
  refine ⟨⟨G2, k3, fun o ho => ?_, fun o ho c hc => ?_, fun o ho hz => ?_⟩, ⟨S.see s hs, fun o ho => ?_, fun o nm ho => ?_, fun o ho => ?_⟩⟩
  · rw [w1]
    by_cases c1 : o = s
    · rw [if_pos c1]; exact WsG.nil G2
    · rw [if_neg c1]; exact hWs o ho c1
  · rw [w1] at hc
    by_cases c1 : o = s
    · rw [if_pos c1] at hc; simp at hc
    · rw [if_neg c1] at hc
      rw [k2 o _ ho, if_neg c1]
      exact h.wl o ho c hc
  · rw [w1]
    rw [w2] at hz
    by_cases c1 : o = s
    · rw [if_pos c1]
    · rw [if_neg c1] at hz ⊢
      exact h.idle o ho hz
  · rw [w2, ← S.act o ho]; rfl
  · rw [k2 o nm ho, ← S.lk o nm ho]; rfl
  · rw [w1]
    show (if o = s then M.see s else mixD (M.lk o) (M.see o) (M.see s)) = _
    by_cases c1 : o = s
    · rw [if_pos c1, if_pos c1, seeD_nil]; exact S.see s hs
    · rw [if_neg c1, if_neg c1, S.see s hs, S.see o ho]
      unfold mixD
      show _ = (seeD (X.ws s) D).map (seeT (X.ws o))
      refine List.map_congr_left (fun u hu => ?_)
      obtain ⟨t, ht, rfl⟩ := List.mem_map.mp hu
      rw [show (seeT (X.ws s) t).nm = t.nm from rfl, S.lk o t.nm ho]
      by_cases hex : ∃ c ∈ X.ws o, c.d.tab = t.nm
      · obtain ⟨c, hc, e⟩ := hex
        have h2 := h.wl o ho c hc
        rw [e] at h2
        rw [if_pos h2, seeD_find, h.db.find ht]
        rw [hsame o ho c1 c hc t ht e.symm]
        rfl
      · have hno : ∀ c ∈ X.ws o, c.d.tab ≠ t.nm := fun c hc e => hex ⟨c, hc, e⟩
        rw [seeT_none (l := X.ws o) (t := seeT (X.ws s) t) hno]
        by_cases h2 : X.lk o t.nm = 2
        · rw [if_pos h2, seeD_find, h.db.find ht]
          have e1 : seeT (X.ws o) t = t := seeT_none hno
          have e2 : seeT (X.ws s) t = t := seeT_none (fun x hx e => by
            have h3 := h.wl s hs x hx
            rw [e] at h3
            have := h.lk.ex ho hs c1 h2
            omega)
          simp only [Option.map_some, Option.getD_some]
          rw [e1, e2]
        · rw [if_neg h2]
/-- Nobody is in a transaction. -/
theorem Shw.any (S : Shw X D M) : M.any ↔ X.any := by
  unfold Mu.any Xs.any
  constructor
  · rintro ⟨o, ho, h⟩; exact ⟨o, ho, by rw [← S.act o ho]; exact h⟩
  · rintro ⟨o, ho, h⟩; exact ⟨o, ho, by rw [S.act o ho]; exact h⟩
theorem Shw.al (S : Shw X D M) {s z : Int} (h : AlE X s z) : M.AlZ s z := by
  unfold AlE at h
  unfold Mu.AlZ
  rw [S.any]
  rcases h with h | ⟨g, h⟩ | ⟨g, h⟩ | h
  · exact .inl h
  · refine .inr (.inl ⟨g, ?_⟩)
    rw [S.act s.toNat (by have := g.1; have := g.2; omega)]
    exact h
  · refine .inr (.inr (.inl ⟨g, ?_⟩))
    rw [S.act s.toNat (by have := g.1; have := g.2; omega)]
    exact h
  · exact .inr (.inr (.inr h))
theorem XOk.schema (h : XOk X D) (S : Shw X D M) (hn : ¬ X.any) {D' : Db} (G : DGd D') : XOk X D' ∧ Shw X D' (M.schema D') := by
  have ha : ∀ o, o < 4 → X.act o = false := fun o ho => by
    cases c : X.act o with
    | false => rfl
    | true => exact absurd ⟨o, ho, c⟩ hn
  have hw : ∀ o, o < 4 → X.ws o = [] := fun o ho => h.idle o ho (ha o ho)
  have hm : ∀ i o, i < 3 → o < 4 → X.md i o = 0 := fun i o hi ho => by
    by_cases z : X.md i o = 0
    · exact z
    · have := h.lk.act i o hi ho z
      rw [ha o ho] at this; cases this
  refine ⟨⟨G, ⟨h.lk.held, h.lk.free, fun i hi hu => ?_, h.lk.one, h.lk.rng, h.lk.act, h.lk.excl⟩, fun o ho => by rw [hw o ho]; exact WsG.nil G, fun o ho c hc => by rw [hw o ho] at hc; simp at hc, h.idle⟩, ⟨rfl, S.act, S.lk, fun o ho => by rw [hw o ho, seeD_nil]; rfl⟩⟩
  obtain ⟨o, ho, hz⟩ := (h.lk.held i hi).mp hu
  exact absurd (hm i o hi ho) hz
end
end Go.Proofs.Qxb6500412aGreat
