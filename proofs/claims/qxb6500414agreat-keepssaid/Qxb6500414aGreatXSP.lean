/-
  OWN WORK. THE TXN LAW, plain: why a session's list, played on what is committed, answers as it was answered: serialisability. No program in sight.
-/
import Derived.Test.Qxb6500414aGreatXS1
namespace Go.Proofs.Qxb6500414aGreat
open Go.RowKit Go.PlainAid
set_option linter.unusedSimpArgs false
set_option linter.unusedVariables false

/-- One op with its answer. -/
structure Rq where
  kd : Int
  a : Int
  bb : Int
  cc : Int
  s : ByteArray
  t : ByteArray
  an : An
def rend : List Rq → Db → Db
  | [], D => D
  | r :: l, D => rend l (shP D r.kd r.bb r.cc r.s r.t).1
def rok : List Rq → Db → Prop
  | [], _ => True
  | r :: l, D => (shP D r.kd r.bb r.cc r.s r.t).2 = r.an ∧ rok l (shP D r.kd r.bb r.cc r.s r.t).1
theorem rend_snoc : ∀ (l : List Rq) (r : Rq) (D : Db), rend (l ++ [r]) D = (shP (rend l D) r.kd r.bb r.cc r.s r.t).1
  | [], r, D => rfl
  | x :: l, r, D => rend_snoc l r _
theorem rok_snoc : ∀ (l : List Rq) (r : Rq) (D : Db), rok (l ++ [r]) D ↔ rok l D ∧ (shP (rend l D) r.kd r.bb r.cc r.s r.t).2 = r.an
  | [], r, D => by simp [rok, rend]
  | x :: l, r, D => by
    show (_ ∧ rok (l ++ [r]) _) ↔ (_ ∧ rok l _) ∧ _
    rw [rok_snoc l r]
    exact and_assoc.symm
def nmsD (D : Db) : List ByteArray := D.map (fun t => t.nm)
/-- What the state of a sound manager has. -/
structure MuOk (M : Mu) : Prop where
  g : DGd M.com
  gs : ∀ s, s < 4 → DGd (M.see s)
  nms : ∀ s, s < 4 → nmsD (M.see s) = nmsD M.com
  out : ∀ s nm, s < 4 → M.lk s nm ≠ 2 → findD (M.see s) nm = findD M.com nm
  ex : ∀ s o nm, s < 4 → o < 4 → s ≠ o → M.lk s nm = 2 → M.lk o nm = 0
  idle : ∀ s nm, s < 4 → M.act s = false → M.lk s nm = 0
  si : ∀ s, s < 4 → M.act s = false → M.see s = M.com
  rg : ∀ s nm, s < 4 → M.lk s nm ≤ 2
theorem seeD_nms (l : List WCh) (D : Db) : nmsD (seeD l D) = nmsD D := by
  unfold nmsD seeD
  rw [List.map_map]
  rfl
theorem RX.mu {q : Gnd} {w : World} {g x : Nat} {M : Mu} {K : Nat → Prop} (R : RX q w g x M K) : MuOk M := by
  have hdg := R.dg
  obtain ⟨X, S, T, hx, la, cf, ok, sh, hk⟩ := R.ex
  refine ⟨hdg.1, hdg.2, fun s hs => ?_, fun s nm hs h => ?_, fun s o nm hs ho hne h => ?_, fun s nm hs h => ?_, fun s hs h => ?_, fun s nm hs => ?_⟩
  · rw [sh.see s hs, sh.com]; exact seeD_nms _ _
  · rw [sh.see s hs, sh.com, seeD_find]
    cases hf : findD (dbOf T) nm with
    | none => rfl
    | some t =>
      obtain ⟨ht, rfl⟩ := findD_mem hf
      rw [Option.map_some, seeT_none (fun c hc e => h (by rw [sh.lk s _ hs, ← e]; exact ok.wl s hs c hc))]
  · rw [sh.lk s nm hs] at h
    rw [sh.lk o nm ho]
    exact ok.lk.ex hs ho hne h
  · rw [sh.lk s nm hs]
    by_cases z : X.lk s nm = 0
    · exact z
    · have := (ok.lk.there hs z).1
      rw [← sh.act s hs, h] at this
      cases this
  · rw [sh.see s hs, ok.idle s hs (by rw [← sh.act s hs]; exact h), seeD_nil, sh.com]
  · rw [sh.lk s nm hs]; exact (ok.lk.rg hs nm).2
theorem find_nms {A B : Db} (h : nmsD A = nmsD B) (nm : ByteArray) : (findD A nm).isSome = (findD B nm).isSome := by
  have key : ∀ D : Db, (findD D nm).isSome = true ↔ nm ∈ nmsD D := by
    intro D
    constructor
    · intro hs
      obtain ⟨t, ht⟩ := Option.isSome_iff_exists.mp hs
      obtain ⟨h1, h2⟩ := findD_mem ht
      exact List.mem_map.mpr ⟨t, h1, h2⟩
    · intro hm
      obtain ⟨t, h1, h2⟩ := List.mem_map.mp hm
      cases c : findD D nm with
      | none => exact absurd h2 (findD_none c h1)
      | some _ => rfl
  rw [Bool.eq_iff_iff, key, key, h]
/-- Databases of the same names that show the same tables are one. -/
theorem db_ext {A B : Db} (hA : A.Pairwise (fun a b => lt a.nm b.nm = true)) (hB : B.Pairwise (fun a b => lt a.nm b.nm = true)) (h : ∀ nm, findD A nm = findD B nm) : A = B := by
  have key : ∀ {D : Db}, D.Pairwise (fun a b => lt a.nm b.nm = true) → ∀ t, t ∈ D ↔ findD D t.nm = some t := by
    intro D hD t
    constructor
    · intro ht
      cases c : findD D t.nm with
      | none => exact absurd rfl (findD_none c ht)
      | some y =>
        obtain ⟨h1, h2⟩ := findD_mem c
        rw [by_key (fun t : Tb => t.nm) hD h1 ht h2]
    · intro hf
      exact (findD_mem hf).1
  refine by_ext (fun t : Tb => t.nm) hA hB (fun t => ?_)
  rw [key hA, key hB, h]
def mixT (L : ByteArray → Int) (E : Db) (t : Tb) : Tb := if L t.nm = 2 then (findD E t.nm).getD t else t
theorem mixT_nm (L : ByteArray → Int) (E : Db) (t : Tb) : (mixT L E t).nm = t.nm := by
  unfold mixT
  split
  · cases c : findD E t.nm with
    | none => rfl
    | some u => exact (findD_mem c).2
  · rfl
theorem find_mapN {F : Tb → Tb} (hF : ∀ t, (F t).nm = t.nm) (D : Db) (nm : ByteArray) : findD (D.map F) nm = (findD D nm).map F := by
  unfold findD
  induction D with
  | nil => rfl
  | cons a r ih =>
    rw [List.map_cons, List.find?_cons, List.find?_cons]
    have e : decide ((F a).nm = nm) = decide (a.nm = nm) := by
      have h := hF a
      by_cases c : a.nm = nm
      · rw [decide_eq_true c, decide_eq_true (h.trans c)]
      · rw [decide_eq_false c, decide_eq_false (fun x => c (h.symm.trans x))]
    rw [e]
    cases decide (a.nm = nm) with
    | true => rfl
    | false => exact ih
theorem find_mix (L : ByteArray → Int) (E C : Db) (nm : ByteArray) : findD (mixD L E C) nm = (findD C nm).map (mixT L E) := find_mapN (mixT_nm L E) C nm
theorem mix_srt {L : ByteArray → Int} {E C : Db} (h : C.Pairwise (fun a b => lt a.nm b.nm = true)) : (mixD L E C).Pairwise (fun a b => lt a.nm b.nm = true) := by
  have e : mixD L E C = C.map (mixT L E) := rfl
  rw [e, List.pairwise_map]
  refine h.imp (fun {a b} hab => ?_)
  rw [mixT_nm, mixT_nm]
  exact hab
theorem find_putT {D : Db} (hs : D.Pairwise (fun a b => lt a.nm b.nm = true)) {u : Tb} (hu : ∃ x ∈ D, x.nm = u.nm) (nm : ByteArray) : findD (putT u D) nm = if nm = u.nm then some u else findD D nm := by
  rw [putT_map hs hu, find_mapN (fun t => by by_cases c : t.nm = u.nm; rw [if_pos c, c]; rw [if_neg c])]
  by_cases c : nm = u.nm
  · rw [if_pos c]
    obtain ⟨y, hy, hn⟩ := hu
    cases hf : findD D nm with
    | none => exact absurd (hn.trans c.symm) (findD_none hf hy)
    | some z => rw [Option.map_some, if_pos (by rw [(findD_mem hf).2, c])]
  · rw [if_neg c]
    cases hf : findD D nm with
    | none => rfl
    | some z => rw [Option.map_some, if_neg (by rw [(findD_mem hf).2]; exact c)]
/-- A database that looks to session s as what is committed: the same names; the same tables where s holds a lock. -/
structure Agr (M : Mu) (s : Nat) (D : Db) : Prop where
  srt : D.Pairwise (fun a b => lt a.nm b.nm = true)
  nms : nmsD D = nmsD M.com
  same : ∀ nm, M.lk s nm ≠ 0 → findD D nm = findD M.com nm
/-- The list of session s answers so on every such database. -/
def RpI (M : Mu) (s : Nat) (L : List Rq) : Prop := ∀ D, Agr M s D → rok L D ∧ rend L D = mixD (M.lk s) (M.see s) D
section
variable {M : Mu} {s : Nat} {L : List Rq}
theorem Agr.self (ok : MuOk M) : Agr M s M.com := ⟨ok.g.srt, rfl, fun _ _ => rfl⟩
theorem mix_zero {E C : Db} {K : ByteArray → Int} (h : ∀ nm, K nm ≠ 2) : mixD K E C = C := by
  unfold mixD
  rw [show C = C.map id by simp]
  rw [List.map_map]
  refine List.map_congr_left (fun t _ => ?_)
  simp only [Function.comp, id]
  rw [if_neg (h t.nm)]
theorem RpI.nil (h : ∀ nm, M.lk s nm ≠ 2) : RpI M s [] := fun D _ => ⟨trivial, (mix_zero h).symm⟩
/-- What a session sees is what is committed, with its own tables. -/
theorem mix_self (ok : MuOk M) (hs : s < 4) : mixD (M.lk s) (M.see s) M.com = M.see s := by
  refine db_ext (mix_srt ok.g.srt) (ok.gs s hs).srt (fun nm => ?_)
  rw [find_mix]
  have hn := find_nms (ok.nms s hs) nm
  cases hf : findD M.com nm with
  | none =>
    rw [hf] at hn
    cases hg : findD (M.see s) nm with
    | none => rfl
    | some _ => rw [hg] at hn; cases hn
  | some t =>
    obtain ⟨_, rfl⟩ := findD_mem hf
    rw [Option.map_some]
    unfold mixT
    by_cases c : M.lk s t.nm = 2
    · rw [if_pos c]
      rw [hf] at hn
      obtain ⟨u, hu⟩ := Option.isSome_iff_exists.mp hn
      rw [hu]
      rfl
    · rw [if_neg c, ok.out s _ hs c, hf]
/-- AT ITS COMMIT: the list answers as it did, and leaves what the session sees. -/
theorem RpI.commit (h : RpI M s L) (ok : MuOk M) (hs : s < 4) : rok L M.com ∧ rend L M.com = M.see s := by
  obtain ⟨h1, h2⟩ := h M.com (Agr.self ok)
  exact ⟨h1, by rw [h2, mix_self ok hs]⟩
/-- On such a database the session's table is the one it sees. -/
theorem find_E (ok : MuOk M) (hs : s < 4) {D : Db} (ag : Agr M s D) {nm : ByteArray} (hsame : findD D nm = findD M.com nm ∨ M.lk s nm = 2) : findD (mixD (M.lk s) (M.see s) D) nm = findD (M.see s) nm := by
  rw [find_mix]
  have hn := find_nms (ok.nms s hs) nm
  have hn2 := find_nms ag.nms nm
  cases hf : findD D nm with
  | none =>
    rw [hf] at hn2
    cases hg : findD (M.see s) nm with
    | none => rfl
    | some _ => rw [hg, ← hn2] at hn; cases hn
  | some t =>
    obtain ⟨_, rfl⟩ := findD_mem hf
    rw [Option.map_some]
    unfold mixT
    by_cases c : M.lk s t.nm = 2
    · rw [if_pos c]
      rw [hf] at hn2
      rw [← hn2] at hn
      obtain ⟨u, hu⟩ := Option.isSome_iff_exists.mp hn
      rw [hu]
      rfl
    · rw [if_neg c]
      rcases hsame with e | e
      · rw [ok.out s _ hs c, ← e, hf]
      · exact absurd e c
/-- A change of a table that is held for writing (or held from now on). -/
theorem mix_put (ok : MuOk M) (hs : s < 4) {D : Db} (ag : Agr M s D) {nm : ByteArray} {u : Tb} (hu : u.nm = nm) (hex : findD M.com nm ≠ none) {K : ByteArray → Int} (hK : K nm = 2) (hK2 : ∀ m, m ≠ nm → K m = M.lk s m) : putT u (mixD (M.lk s) (M.see s) D) = mixD K (putT u (M.see s)) D := by
  have isD : (findD D nm).isSome = true := by
    rw [find_nms ag.nms nm]
    cases c : findD M.com nm with
    | none => exact absurd c hex
    | some _ => rfl
  obtain ⟨td, htd⟩ := Option.isSome_iff_exists.mp isD
  have isE : ∃ y ∈ mixD (M.lk s) (M.see s) D, y.nm = u.nm := ⟨mixT (M.lk s) (M.see s) td, List.mem_map.mpr ⟨td, (findD_mem htd).1, rfl⟩, by rw [mixT_nm, hu]; exact (findD_mem htd).2⟩
  have isS : ∃ y ∈ M.see s, y.nm = u.nm := by
    have h1 := find_nms (ok.nms s hs) nm
    have h2 : (findD (M.see s) nm).isSome = true := by rw [h1, ← find_nms ag.nms nm]; exact isD
    obtain ⟨y, hy⟩ := Option.isSome_iff_exists.mp h2
    exact ⟨y, (findD_mem hy).1, by rw [hu]; exact (findD_mem hy).2⟩
  refine db_ext (putBy_srt _ (mix_srt ag.srt)) (mix_srt ag.srt) (fun m => ?_)
  rw [find_putT (mix_srt ag.srt) isE, find_mix, find_mix]
  by_cases c : m = nm
  · subst c
    rw [if_pos hu.symm, htd, Option.map_some]
    unfold mixT
    rw [(findD_mem htd).2, if_pos hK, find_putT (ok.gs s hs).srt isS, if_pos hu.symm]
    rfl
  · rw [if_neg (by rw [hu]; exact c)]
    cases hf : findD D m with
    | none => rfl
    | some t =>
      obtain ⟨_, rfl⟩ := findD_mem hf
      rw [Option.map_some, Option.map_some]
      unfold mixT
      have hne : ¬ t.nm = u.nm := by rw [hu]; exact c
      rw [hK2 _ c, find_putT (ok.gs s hs).srt isS, if_neg hne]
/-- A lock more on a table that is as it was: nothing is seen otherwise. -/
theorem mix_lock (ok : MuOk M) (hs : s < 4) {D : Db} (ag : Agr M s D) {nm : ByteArray} (hsame : findD D nm = findD M.com nm) {K : ByteArray → Int} (hK2 : ∀ m, m ≠ nm → K m = M.lk s m) (hK : K nm = 2 ∨ M.lk s nm ≠ 2) : mixD (M.lk s) (M.see s) D = mixD K (M.see s) D := by
  refine db_ext (mix_srt ag.srt) (mix_srt ag.srt) (fun m => ?_)
  by_cases c : m = nm
  · subst c
    rw [find_E ok hs ag (.inl hsame), find_mix]
    have hn := find_nms (ok.nms s hs) m
    have hn2 := find_nms ag.nms m
    cases hf : findD D m with
    | none =>
      rw [hf] at hn2
      cases hg : findD (M.see s) m with
      | none => rfl
      | some _ => rw [hg, ← hn2] at hn; cases hn
    | some t =>
      obtain ⟨_, rfl⟩ := findD_mem hf
      rw [Option.map_some]
      unfold mixT
      rw [hf] at hn2
      rw [← hn2] at hn
      obtain ⟨u, hu⟩ := Option.isSome_iff_exists.mp hn
      by_cases k2 : K t.nm = 2
      · rw [if_pos k2, hu]; rfl
      · rw [if_neg k2]
        rcases hK with h | h
        · exact absurd h k2
        · rw [ok.out s _ hs h, ← hsame, hf]
  · rw [find_mix, find_mix]
    cases hf : findD D m with
    | none => rfl
    | some t =>
      obtain ⟨_, rfl⟩ := findD_mem hf
      rw [Option.map_some, Option.map_some]
      unfold mixT
      rw [hK2 _ c]
/-- THE STEPS. The locks of a session after it took one. -/
theorem setL_lk (M : Mu) (s : Nat) (nm : ByteArray) (mode : Int) (m : ByteArray) : (M.setL s nm mode).lk s m = if m = nm ∧ M.lk s nm < mode then mode else M.lk s m := by
  show (if s = s ∧ m = nm ∧ M.lk s nm < mode then mode else M.lk s m) = _
  by_cases c : m = nm ∧ M.lk s nm < mode
  · rw [if_pos ⟨rfl, c⟩, if_pos c]
  · rw [if_neg (fun x => c x.2), if_neg c]
/-- A change played: on the list's database as on the one that is seen. -/
theorem on_E {E S : Db} {nm : ByteArray} {f : Tb → Tb × Int} (h : findD E nm = findD S nm) : (onT E nm f).2 = (onT S nm f).2 ∧ ((onT E nm f).1 = E ∧ (onT S nm f).1 = S ∨ ∃ t, findD S nm = some t ∧ (f t).2 = 0 ∧ (onT E nm f).1 = putT (f t).1 E ∧ (onT S nm f).1 = putT (f t).1 S) := by
  unfold onT
  rw [h]
  cases c : findD S nm with
  | none => exact ⟨rfl, .inl ⟨rfl, rfl⟩⟩
  | some t =>
    simp only
    by_cases z : (f t).2 = 0
    · rw [if_pos z, if_pos z]
      exact ⟨by trivial, .inr ⟨t, rfl, z, rfl, rfl⟩⟩
    · rw [if_neg z, if_neg z]
      exact ⟨by trivial, .inl ⟨rfl, rfl⟩⟩
theorem insR_nm (t : Tb) (row : List Vl) : (insR t row).1.nm = t.nm := by
  unfold insR
  split
  · rfl
  · cases fndK t (pkK t.pk row) with
    | some _ => rfl
    | none => simp only; split <;> rfl
theorem updR_nm (t : Tb) (row : List Vl) : (updR t row).1.nm = t.nm := by
  unfold updR
  split
  · rfl
  · cases fndK t (pkK t.pk row) <;> rfl
theorem delR_nm (t : Tb) (key : Vl) : (delR t key).1.nm = t.nm := by
  unfold delR
  split
  · rfl
  · cases fndK t (cV key) <;> rfl
/-- A change by session s. -/
theorem RpI.write (h : RpI M s L) (ok : MuOk M) (hs : s < 4) {nm : ByteArray} {f : Tb → Tb × Int} (hf : ∀ t, (f t).1.nm = t.nm) (hex : findD M.com nm ≠ none) {r : Rq} (hr : ∀ D, shP D r.kd r.bb r.cc r.s r.t = ((onT D nm f).1, anE (onT D nm f).2)) (ha : r.an = anE (onT (M.see s) nm f).2) : RpI ((M.setL s nm 2).setV s (onT (M.see s) nm f).1) s (L ++ [r]) := by
  intro D ag
  have hlk2 : (M.setL s nm 2).lk s nm = 2 := by
    rw [setL_lk]
    by_cases c : M.lk s nm < 2
    · rw [if_pos ⟨rfl, c⟩]
    · rw [if_neg (fun x => c x.2)]
      have := ok.rg s nm hs
      omega
  have hlkm : ∀ m, m ≠ nm → (M.setL s nm 2).lk s m = M.lk s m := fun m hm => by rw [setL_lk, if_neg (fun x => hm x.1)]
  have hsame : findD D nm = findD M.com nm := ag.same nm (by show (M.setL s nm 2).lk s nm ≠ 0; rw [hlk2]; omega)
  have ag0 : Agr M s D := ⟨ag.srt, ag.nms, fun m hm => by
    by_cases c : m = nm
    · rw [c]; exact hsame
    · exact ag.same m (by show (M.setL s nm 2).lk s m ≠ 0; rw [hlkm m c]; exact hm)⟩
  obtain ⟨h1, h2⟩ := h D ag0
  have hE := find_E ok hs ag0 (nm := nm) (.inl hsame)
  rw [rok_snoc, rend_snoc, hr, h2]
  obtain ⟨e1, e2⟩ := on_E (f := f) hE
  have hsee : ((M.setL s nm 2).setV s (onT (M.see s) nm f).1).see s = (onT (M.see s) nm f).1 := by
    show (if s = s then _ else _) = _
    rw [if_pos rfl]
  refine ⟨⟨h1, by rw [ha, e1]⟩, ?_⟩
  rw [hsee]
  show (onT (mixD (M.lk s) (M.see s) D) nm f).1 = mixD ((M.setL s nm 2).lk s) (onT (M.see s) nm f).1 D
  rcases e2 with ⟨x1, x2⟩ | ⟨t, ht, hz, x1, x2⟩
  · rw [x1, x2]
    exact mix_lock ok hs ag0 hsame hlkm (.inl hlk2)
  · rw [x1, x2]
    exact mix_put ok hs ag0 (by rw [hf]; exact (findD_mem ht).2) hex hlk2 hlkm
/-- A look by session s. -/
theorem RpI.read (h : RpI M s L) (ok : MuOk M) (hs : s < 4) {nm : ByteArray} {r : Rq} (hr : ∀ D, (shP D r.kd r.bb r.cc r.s r.t).1 = D) (ha : ∀ D, findD D nm = findD (M.see s) nm → (shP D r.kd r.bb r.cc r.s r.t).2 = r.an) : RpI (M.setL s nm 1) s (L ++ [r]) := by
  intro D ag
  have hlkn : (M.setL s nm 1).lk s nm ≠ 0 ∧ ((M.setL s nm 1).lk s nm = 2 ∨ M.lk s nm ≠ 2) := by
    rw [setL_lk]
    by_cases c : M.lk s nm < 1
    · rw [if_pos ⟨rfl, c⟩]
      exact ⟨by omega, .inr (by omega)⟩
    · rw [if_neg (fun x => c x.2)]
      refine ⟨by omega, ?_⟩
      by_cases d : M.lk s nm = 2
      · exact .inl d
      · exact .inr d
  have hlkm : ∀ m, m ≠ nm → (M.setL s nm 1).lk s m = M.lk s m := fun m hm => by rw [setL_lk, if_neg (fun x => hm x.1)]
  have hsame : findD D nm = findD M.com nm := ag.same nm hlkn.1
  have ag0 : Agr M s D := ⟨ag.srt, ag.nms, fun m hm => by
    by_cases c : m = nm
    · rw [c]; exact hsame
    · exact ag.same m (by rw [hlkm m c]; exact hm)⟩
  obtain ⟨h1, h2⟩ := h D ag0
  have hE := find_E ok hs ag0 (nm := nm) (.inl hsame)
  rw [rok_snoc, rend_snoc, hr, h2]
  exact ⟨⟨h1, ha _ hE⟩, mix_lock ok hs ag0 hsame hlkm hlkn.2⟩
/-- No such table: every database says so. -/
theorem RpI.none (h : RpI M s L) (ok : MuOk M) (hs : s < 4) {nm : ByteArray} (hn : findD M.com nm = Option.none) {r : Rq} (hr : ∀ D, findD D nm = Option.none → shP D r.kd r.bb r.cc r.s r.t = (D, r.an)) : RpI M s (L ++ [r]) := by
  intro D ag
  obtain ⟨h1, h2⟩ := h D ag
  have hD : findD D nm = Option.none := by
    have := find_nms ag.nms nm
    rw [hn] at this
    cases c : findD D nm with
    | none => rfl
    | some _ => rw [c] at this; cases this
  have hE : findD (mixD (M.lk s) (M.see s) D) nm = Option.none := by rw [find_mix, hD]; rfl
  rw [rok_snoc, rend_snoc, h2, hr _ hE]
  exact ⟨⟨h1, rfl⟩, rfl⟩
/-- Another session's call: nothing of s turns. -/
theorem RpI.other {M' : Mu} (h : RpI M s L) (hc : M'.com = M.com) (hl : ∀ nm, M'.lk s nm = M.lk s nm) (hv : M'.see s = M.see s) : RpI M' s L := by
  intro D ag
  have e : M'.lk s = M.lk s := funext hl
  rw [e, hv]
  exact h D ⟨ag.srt, by rw [ag.nms, hc], fun nm hn => by rw [ag.same nm (by rw [hl]; exact hn), hc]⟩
/-- Another session's Commit. -/
theorem RpI.commitO (h : RpI M s L) (ok : MuOk M) (hs : s < 4) {o : Nat} (ho : o < 4) (hne : s ≠ o) : RpI (M.commit o) s L := by
  intro D ag
  have hl : (M.commit o).lk s = M.lk s := by
    funext n
    show (if s = o then 0 else M.lk s n) = _
    rw [if_neg hne]
  have hv : (M.commit o).see s = mixD (M.lk s) (M.see s) (M.see o) := by
    show (if s = o then _ else _) = _
    rw [if_neg hne]
  have hcom : (M.commit o).com = M.see o := rfl
  have ag0 : Agr M s D := ⟨ag.srt, by rw [ag.nms, hcom, ok.nms o ho], fun nm hn => by
    rw [ag.same nm (by rw [hl]; exact hn), hcom]
    refine ok.out o nm ho (fun c => ?_)
    exact hn (ok.ex o s nm ho hs (fun e => hne e.symm) c)⟩
  obtain ⟨h1, h2⟩ := h D ag0
  refine ⟨h1, ?_⟩
  rw [h2, hl, hv]
  refine db_ext (mix_srt ag.srt) (mix_srt ag.srt) (fun m => ?_)
  rw [find_mix, find_mix]
  cases hf : findD D m with
  | none => rfl
  | some t =>
    obtain ⟨_, rfl⟩ := findD_mem hf
    rw [Option.map_some, Option.map_some]
    unfold mixT
    by_cases c : M.lk s t.nm = 2
    · rw [if_pos c, if_pos c, find_mix]
      have i1 := find_nms ag.nms t.nm
      rw [hf, hcom] at i1
      obtain ⟨u, hu⟩ := Option.isSome_iff_exists.mp i1.symm
      have i2 := find_nms (ok.nms s hs) t.nm
      rw [← find_nms (ok.nms o ho) t.nm, hu] at i2
      obtain ⟨v, hv2⟩ := Option.isSome_iff_exists.mp i2
      rw [hu, hv2, Option.map_some]
      unfold mixT
      rw [(findD_mem hu).2, if_pos c, hv2]
      rfl
    · rw [if_neg c, if_neg c]
end
end Go.Proofs.Qxb6500414aGreat
