/-
  OWN WORK. THE TABLE LAW, plain: what the observers show settles the database; what the forest must hold.
-/
import Derived.Test.Qxb6500413aGreatMP3
import Derived.Test.Qxb6500413aGreatMS1
namespace Go.Proofs.Qxb6500413aGreat
open Go.RowKit Go.PlainAid
set_option linter.unusedSimpArgs false
set_option linter.unusedVariables false

theorem scn_pk {D : Db} {nm : ByteArray} {t : Tb} (d : DOk D) (hf : findD D nm = some t) : scnD D nm (t.pk : Int) none none = (t.rows, 0) := by
  have ok := d.tb t (List.mem_of_find?_eq_some hf)
  have hp := ok.pkn
  have hE : scnE t (t.pk : Int) none none = 0 := by
    unfold scnE
    rw [if_neg (by omega), if_neg (by simp)]
    simp [bndT, bndS]
  unfold scnD
  rw [hf]
  simp only [hE, if_true, Int.toNat_natCast]
  have : scnL t t.pk none none = t.rows := by
    unfold scnL
    rw [if_pos rfl, List.filter_eq_self]
    exact fun _ _ => inB_open _
  rw [this]
/-- All that AlikeTable looks at. -/
def Als (A B : Db) (nm : ByteArray) : Prop := schD A nm = schD B nm ∧ ∀ c : Int, -1 ≤ c → c ≤ 3 → scnD A nm c none none = scnD B nm c none none
theorem Als.refl (A : Db) (nm : ByteArray) : Als A A nm := ⟨rfl, fun _ _ _ => rfl⟩
theorem Als.find {A B : Db} {nm : ByteArray} (dA : DOk A) (dB : DOk B) (h : Als A B nm) {t : Tb} (hf : findD A nm = some t) {t' : Tb} (hf' : findD B nm = some t') : t = t' := by
  obtain ⟨h1, h2⟩ := h
  unfold schD at h1
  rw [hf, hf'] at h1
  simp only [Sch.mk.injEq] at h1
  obtain ⟨e1, e2, e3, e4, _⟩ := h1
  have okA := dA.tb t (List.mem_of_find?_eq_some hf)
  have hp := okA.pkn
  have h3 := okA.n3
  have e3' : t.pk = t'.pk := by omega
  have h := h2 (t.pk : Int) (by omega) (by omega)
  rw [scn_pk dA hf] at h
  rw [e3', scn_pk dB hf'] at h
  have e5 := (Prod.mk.inj h).1
  have e6 := ixI_inj e4
  obtain ⟨n, c, p, x, r⟩ := t
  obtain ⟨n', c', p', x', r'⟩ := t'
  simp at e1 e2 e3' e5 e6
  subst e1 e2 e3' e5 e6
  rfl
theorem findD_mem {D : Db} (d : DOk D) {t : Tb} (h : t ∈ D) : findD D t.nm = some t := by
  cases hf : findD D t.nm with
  | none =>
    unfold findD at hf
    have := List.find?_eq_none.mp hf t h
    simp at this
  | some t' => rw [findD_uniq d h rfl hf]
/-- What the observers show settles the database. -/
theorem alike_eq {A B : Db} (dA : DOk A) (dB : DOk B) (hn : namesD A = namesD B) (h : ∀ nm ∈ namesD B, Als A B nm) : A = B := by
  have hl : A.length = B.length := by have := congrArg List.length hn; simpa [namesD] using this
  refine List.ext_getElem hl (fun i h1 h2 => ?_)
  have e : A[i].nm = B[i].nm := by
    have := congrArg (fun l => l[i]?) hn
    simp [namesD] at this
    rw [List.getElem?_eq_getElem h1, List.getElem?_eq_getElem h2] at this
    simpa using this
  have f1 := findD_mem dA (List.getElem_mem h1)
  have f2 := findD_mem dB (List.getElem_mem h2)
  rw [e] at f1
  exact Als.find dA dB (h B[i].nm (List.mem_map.mpr ⟨_, List.getElem_mem h2, rfl⟩)) f1 f2
/-- What a table needs: entries, trees. -/
def entT (t : Tb) : Nat := 1 + t.cols.length + t.rows.length + (if t.ix.isSome then t.rows.length else 0)
def treT (t : Tb) : Nat := 1 + (if t.ix.isSome then 1 else 0)
def entD (D : Db) : Nat := (D.map entT).sum
def treD (D : Db) : Nat := (D.map treT).sum
section
variable {S : Vu} {T : List (Tb × Hd)}
def usd (S : Vu) : List Nat := (List.range 8).filter (fun i => (S i).isSome)
theorem Lay.hnodup (L : Lay S T) : (hands T).Nodup := by
  unfold hands List.Nodup
  rw [List.pairwise_flatMap]
  refine ⟨fun x hx => ?_, ?_⟩
  · show (hnd x).Nodup
    unfold hnd
    rw [List.nodup_cons]
    refine ⟨fun h => ?_, ?_⟩
    · have : x.2.idx = some x.2.rows := by simpa using h
      exact ((L.hd x hx).ok.idx _ this).2.2 rfl
    · cases x.2.idx <;> simp
  · exact L.nod
theorem Lay.usd_perm (L : Lay S T) : (usd S).Perm (0 :: hands T) := by
  have hp : ∀ i ∈ hands T, 1 ≤ i ∧ i < 8 := fun i hi => by
    obtain ⟨x, hx, h⟩ := mem_hands.mp hi
    exact hnd_pos (L.hd x hx) i h
  have hs : ∀ i ∈ hands T, (S i).isSome = true := fun i hi => by
    obtain ⟨x, hx, h⟩ := mem_hands.mp hi
    unfold hnd at h
    rcases List.mem_cons.mp h with rfl | h
    · rw [L.rows x hx]; rfl
    · have hi : x.2.idx = some i := by simpa using h
      cases hc : x.1.ix with
      | none =>
        have := (L.hd x hx).ok.both.mp (by rw [(L.hd x hx).ix, hc])
        rw [hi] at this
        cases this
      | some c => rw [L.idx x hx c i hc hi]; rfl
  refine (List.perm_ext_iff_of_nodup ?_ ?_).mpr (fun i => ?_)
  · exact List.Pairwise.filter _ List.nodup_range
  · rw [List.nodup_cons]
    exact ⟨fun h => by have := hp 0 h; omega, L.hnodup⟩
  · unfold usd
    rw [List.mem_filter, List.mem_range, List.mem_cons]
    constructor
    · rintro ⟨h1, h2⟩
      by_cases c : i = 0
      · exact .inl c
      · exact .inr (L.used i c (fun e => by rw [e] at h2; cases h2))
    · rintro (rfl | h)
      · exact ⟨by omega, by rw [L.cat]; rfl⟩
      · exact ⟨(hp i h).2, hs i h⟩
theorem sum_filter (f : Nat → Nat) (p : Nat → Bool) (h : ∀ i, p i = false → f i = 0) : ∀ l : List Nat, ((l.filter p).map f).sum = (l.map f).sum
  | [] => rfl
  | a :: l => by
    cases hp : p a with
    | true => rw [List.filter_cons_of_pos hp]; simp [sum_filter f p h l]
    | false => rw [List.filter_cons_of_neg (by rw [hp]; simp)]; simp [sum_filter f p h l, h a hp]
theorem sum_perm {l l' : List Nat} (h : l.Perm l') : l.sum = l'.sum := by
  induction h with
  | nil => rfl
  | cons x _ ih => simp [ih]
  | swap x y l => simp; omega
  | trans _ _ h1 h2 => rw [h1, h2]
theorem sum_flat {α : Type} (f : α → List Nat) (g : Nat → Nat) : ∀ l : List α, ((l.flatMap f).map g).sum = (l.map (fun x => ((f x).map g).sum)).sum
  | [] => rfl
  | a :: l => by simp [sum_flat f g l]
theorem kvsOf_len {α : Type} (f g : α → ByteArray) (l : List α) : (kvsOf f g l).length = l.length := by unfold kvsOf; rw [List.length_map]
theorem catL_len : ∀ T : List (Tb × Hd), (catL T).length = (T.map (fun x => 1 + x.1.cols.length)).sum
  | [] => rfl
  | x :: T => by
    have := catL_len T
    unfold catL at this ⊢
    simp [catT, this]
theorem sum_add {α : Type} (f g : α → Nat) : ∀ l : List α, (l.map (fun x => f x + g x)).sum = (l.map f).sum + (l.map g).sum
  | [] => rfl
  | a :: l => by simp [sum_add f g l]; omega
/-- The entries of all trees. -/
theorem Lay.ent (L : Lay S T) : (al8 S).length = entD (dbOf T) := by
  have h1 : (al8 S).length = ((List.range 8).map (fun i => ((S i).getD []).length)).sum := by unfold al8; rw [List.length_flatMap]
  rw [h1, ← sum_filter (fun i => ((S i).getD []).length) (fun i => (S i).isSome) (fun i hi => by
    cases h : S i with
    | none => rfl
    | some l => rw [h] at hi; cases hi) (List.range 8)]
  have h2 := sum_perm (L.usd_perm.map (fun i => ((S i).getD []).length))
  unfold usd at h2
  rw [h2, List.map_cons, List.sum_cons, L.cat]
  unfold hands
  rw [sum_flat]
  have h3 : (T.map (fun x => ((hnd x).map (fun i => ((S i).getD []).length)).sum)) = T.map (fun x => x.1.rows.length + (if x.1.ix.isSome then x.1.rows.length else 0)) := by
    refine List.map_congr_left (fun x hx => ?_)
    unfold hnd
    rw [List.map_cons, List.sum_cons, L.rows x hx]
    have e1 : ((some (rowsL x.1.pk x.1.rows)).getD []).length = x.1.rows.length := by show (rowsL x.1.pk x.1.rows).length = _; unfold rowsL; rw [kvsOf_len]
    rw [e1]
    congr 1
    cases hc : x.1.ix with
    | none =>
      have hi : x.2.idx = none := (L.hd x hx).ok.both.mp (by rw [(L.hd x hx).ix, hc])
      rw [hi]
      rfl
    | some c =>
      cases hi : x.2.idx with
      | none =>
        have := (L.hd x hx).ok.both.mpr hi
        rw [(L.hd x hx).ix, hc] at this
        cases this
      | some i =>
        have e2 : ((S i).getD []).length = x.1.rows.length := by
          rw [L.idx x hx c i hc hi]
          show (idxL x.1.pk c x.1.rows).length = _
          unfold idxL
          rw [kvsOf_len, idxR_len_eq (L.tb x hx).srt]
        simp [e2]
  rw [h3]
  show (catL T).length + _ = _
  rw [catL_len, ← sum_add]
  unfold entD dbOf
  rw [List.map_map]
  congr 1
  refine List.map_congr_left (fun x hx => ?_)
  show 1 + x.1.cols.length + (x.1.rows.length + _) = entT x.1
  unfold entT
  omega
/-- The handles in use. -/
theorem Lay.tre (L : Lay S T) : (usd S).length = 1 + treD (dbOf T) := by
  rw [L.usd_perm.length_eq, List.length_cons]
  unfold hands
  rw [List.length_flatMap]
  have h3 : (T.map (fun x => (hnd x).length)) = T.map (fun x => treT x.1) := by
    refine List.map_congr_left (fun x hx => ?_)
    unfold hnd treT
    rw [List.length_cons]
    cases hc : x.1.ix with
    | none =>
      have hi : x.2.idx = none := (L.hd x hx).ok.both.mp (by rw [(L.hd x hx).ix, hc])
      rw [hi]
      rfl
    | some c =>
      cases hi : x.2.idx with
      | none =>
        have := (L.hd x hx).ok.both.mpr hi
        rw [(L.hd x hx).ix, hc] at this
        cases this
      | some i => rfl
  rw [h3]
  unfold treD dbOf
  rw [List.map_map]
  show (T.map _).sum + 1 = 1 + (T.map _).sum
  rw [Nat.add_comm]
  rfl
end
end Go.Proofs.Qxb6500413aGreat
