/-
  OWN WORK. TXN, plain: what a sound state has; a database mixed of two; an answer. For a seat without txnlaw (written by tools/gen_xspq.py out of XSP, XL0, XL2).
-/
import Derived.Test.Qxb6500412aGreatXJ0
namespace Go.Proofs.Qxb6500412aGreat
open Go.RowKit Go.PlainAid
set_option linter.unusedSimpArgs false
set_option linter.unusedVariables false

section
variable {q : Gnd} {w : World} {g x : Nat} {M : Mu} {K : Nat → Prop}
theorem RX.dg (R : RX q w g x M K) : DGd M.com ∧ ∀ o, o < 4 → DGd (M.see o) := by
  obtain ⟨X, S, T, hx, la, cf, ok, sh, hk⟩ := R.ex
  refine ⟨by rw [sh.com]; exact ok.db, fun o ho => ?_⟩
  rw [sh.see o ho]
  exact (ok.ws o ho).see ok.db
end
def nmsD (D : Db) : List ByteArray := D.map (fun t => t.nm)
structure MuOk (M : Mu) : Prop where
  g : DGd M.com
  gs : ∀ s, s < 4 → DGd (M.see s)
  nms : ∀ s, s < 4 → nmsD (M.see s) = nmsD M.com
  out : ∀ s nm, s < 4 → M.lk s nm ≠ 2 → findD (M.see s) nm = findD M.com nm
  ex : ∀ s o nm, s < 4 → o < 4 → s ≠ o → M.lk s nm = 2 → M.lk o nm = 0
  idle : ∀ s nm, s < 4 → M.act s = false → M.lk s nm = 0
  si : ∀ s, s < 4 → M.act s = false → M.see s = M.com
  rg : ∀ s nm, s < 4 → M.lk s nm ≤ 2
theorem seeD_nms (l : List WCh) (D : Db) : nmsD (seeD l D) = nmsD D := by
  unfold nmsD seeD
  rw [List.map_map]
  rfl
theorem RX.mu {q : Gnd} {w : World} {g x : Nat} {M : Mu} {K : Nat → Prop} (R : RX q w g x M K) : MuOk M := by
  have hdg := R.dg
  obtain ⟨X, S, T, hx, la, cf, ok, sh, hk⟩ := R.ex
  refine ⟨hdg.1, hdg.2, fun s hs => ?_, fun s nm hs h => ?_, fun s o nm hs ho hne h => ?_, fun s nm hs h => ?_, fun s hs h => ?_, fun s nm hs => ?_⟩
  · rw [sh.see s hs, sh.com]; exact seeD_nms _ _
  · rw [sh.see s hs, sh.com, seeD_find]
    cases hf : findD (dbOf T) nm with
    | none => rfl
    | some t =>
      obtain ⟨ht, rfl⟩ := findD_mem hf
      rw [Option.map_some, seeT_none (fun c hc e => h (by rw [sh.lk s _ hs, ← e]; exact ok.wl s hs c hc))]
  · rw [sh.lk s nm hs] at h
    rw [sh.lk o nm ho]
    exact ok.lk.ex hs ho hne h
  · rw [sh.lk s nm hs]
    by_cases z : X.lk s nm = 0
    · exact z
    · have := (ok.lk.there hs z).1
      rw [← sh.act s hs, h] at this
      cases this
  · rw [sh.see s hs, ok.idle s hs (by rw [← sh.act s hs]; exact h), seeD_nil, sh.com]
  · rw [sh.lk s nm hs]; exact (ok.lk.rg hs nm).2
theorem find_nms {A B : Db} (h : nmsD A = nmsD B) (nm : ByteArray) : (findD A nm).isSome = (findD B nm).isSome := by
  have key : ∀ D : Db, (findD D nm).isSome = true ↔ nm ∈ nmsD D := by
    intro D
    constructor
    · intro hs
      obtain ⟨t, ht⟩ := Option.isSome_iff_exists.mp hs
      obtain ⟨h1, h2⟩ := findD_mem ht
      exact List.mem_map.mpr ⟨t, h1, h2⟩
    · intro hm
      obtain ⟨t, h1, h2⟩ := List.mem_map.mp hm
      cases c : findD D nm with
      | none => exact absurd h2 (findD_none c h1)
      | some _ => rfl
  rw [Bool.eq_iff_iff, key, key, h]
theorem db_ext {A B : Db} (hA : A.Pairwise (fun a b => lt a.nm b.nm = true)) (hB : B.Pairwise (fun a b => lt a.nm b.nm = true)) (h : ∀ nm, findD A nm = findD B nm) : A = B := by
  have key : ∀ {D : Db}, D.Pairwise (fun a b => lt a.nm b.nm = true) → ∀ t, t ∈ D ↔ findD D t.nm = some t := by
    intro D hD t
    constructor
    · intro ht
      cases c : findD D t.nm with
      | none => exact absurd rfl (findD_none c ht)
      | some y =>
        obtain ⟨h1, h2⟩ := findD_mem c
        rw [by_key (fun t : Tb => t.nm) hD h1 ht h2]
    · intro hf
      exact (findD_mem hf).1
  refine by_ext (fun t : Tb => t.nm) hA hB (fun t => ?_)
  rw [key hA, key hB, h]
def mixT (L : ByteArray → Int) (E : Db) (t : Tb) : Tb := if L t.nm = 2 then (findD E t.nm).getD t else t
theorem mixT_nm (L : ByteArray → Int) (E : Db) (t : Tb) : (mixT L E t).nm = t.nm := by
  unfold mixT
  split
  · cases c : findD E t.nm with
    | none => rfl
    | some u => exact (findD_mem c).2
  · rfl
theorem find_mapN {F : Tb → Tb} (hF : ∀ t, (F t).nm = t.nm) (D : Db) (nm : ByteArray) : findD (D.map F) nm = (findD D nm).map F := by
  unfold findD
  induction D with
  | nil => rfl
  | cons a r ih =>
    rw [List.map_cons, List.find?_cons, List.find?_cons]
    have e : decide ((F a).nm = nm) = decide (a.nm = nm) := by
      have h := hF a
      by_cases c : a.nm = nm
      · rw [decide_eq_true c, decide_eq_true (h.trans c)]
      · rw [decide_eq_false c, decide_eq_false (fun x => c (h.symm.trans x))]
    rw [e]
    cases decide (a.nm = nm) with
    | true => rfl
    | false => exact ih
theorem find_mix (L : ByteArray → Int) (E C : Db) (nm : ByteArray) : findD (mixD L E C) nm = (findD C nm).map (mixT L E) := find_mapN (mixT_nm L E) C nm
theorem mix_srt {L : ByteArray → Int} {E C : Db} (h : C.Pairwise (fun a b => lt a.nm b.nm = true)) : (mixD L E C).Pairwise (fun a b => lt a.nm b.nm = true) := by
  have e : mixD L E C = C.map (mixT L E) := rfl
  rw [e, List.pairwise_map]
  refine h.imp (fun {a b} hab => ?_)
  rw [mixT_nm, mixT_nm]
  exact hab
theorem find_putT {D : Db} (hs : D.Pairwise (fun a b => lt a.nm b.nm = true)) {u : Tb} (hu : ∃ x ∈ D, x.nm = u.nm) (nm : ByteArray) : findD (putT u D) nm = if nm = u.nm then some u else findD D nm := by
  rw [putT_map hs hu, find_mapN (fun t => by by_cases c : t.nm = u.nm; rw [if_pos c, c]; rw [if_neg c])]
  by_cases c : nm = u.nm
  · rw [if_pos c]
    obtain ⟨y, hy, hn⟩ := hu
    cases hf : findD D nm with
    | none => exact absurd (hn.trans c.symm) (findD_none hf hy)
    | some z => rw [Option.map_some, if_pos (by rw [(findD_mem hf).2, c])]
  · rw [if_neg c]
    cases hf : findD D nm with
    | none => rfl
    | some z => rw [Option.map_some, if_neg (by rw [(findD_mem hf).2]; exact c)]
structure Agr (M : Mu) (s : Nat) (D : Db) : Prop where
  srt : D.Pairwise (fun a b => lt a.nm b.nm = true)
  nms : nmsD D = nmsD M.com
  same : ∀ nm, M.lk s nm ≠ 0 → findD D nm = findD M.com nm
section
variable {M : Mu} {s : Nat}
theorem Agr.self (ok : MuOk M) : Agr M s M.com := ⟨ok.g.srt, rfl, fun _ _ => rfl⟩
theorem mix_zero {E C : Db} {K : ByteArray → Int} (h : ∀ nm, K nm ≠ 2) : mixD K E C = C := by
  unfold mixD
  rw [show C = C.map id by simp]
  rw [List.map_map]
  refine List.map_congr_left (fun t _ => ?_)
  simp only [Function.comp, id]
  rw [if_neg (h t.nm)]
theorem mix_self (ok : MuOk M) (hs : s < 4) : mixD (M.lk s) (M.see s) M.com = M.see s := by
  refine db_ext (mix_srt ok.g.srt) (ok.gs s hs).srt (fun nm => ?_)
  rw [find_mix]
  have hn := find_nms (ok.nms s hs) nm
  cases hf : findD M.com nm with
  | none =>
    rw [hf] at hn
    cases hg : findD (M.see s) nm with
    | none => rfl
    | some _ => rw [hg] at hn; cases hn
  | some t =>
    obtain ⟨_, rfl⟩ := findD_mem hf
    rw [Option.map_some]
    unfold mixT
    by_cases c : M.lk s t.nm = 2
    · rw [if_pos c]
      rw [hf] at hn
      obtain ⟨u, hu⟩ := Option.isSome_iff_exists.mp hn
      rw [hu]
      rfl
    · rw [if_neg c, ok.out s _ hs c, hf]
theorem find_E (ok : MuOk M) (hs : s < 4) {D : Db} (ag : Agr M s D) {nm : ByteArray} (hsame : findD D nm = findD M.com nm ∨ M.lk s nm = 2) : findD (mixD (M.lk s) (M.see s) D) nm = findD (M.see s) nm := by
  rw [find_mix]
  have hn := find_nms (ok.nms s hs) nm
  have hn2 := find_nms ag.nms nm
  cases hf : findD D nm with
  | none =>
    rw [hf] at hn2
    cases hg : findD (M.see s) nm with
    | none => rfl
    | some _ => rw [hg, ← hn2] at hn; cases hn
  | some t =>
    obtain ⟨_, rfl⟩ := findD_mem hf
    rw [Option.map_some]
    unfold mixT
    by_cases c : M.lk s t.nm = 2
    · rw [if_pos c]
      rw [hf] at hn2
      rw [← hn2] at hn
      obtain ⟨u, hu⟩ := Option.isSome_iff_exists.mp hn
      rw [hu]
      rfl
    · rw [if_neg c]
      rcases hsame with e | e
      · rw [ok.out s _ hs c, ← e, hf]
      · exact absurd e c
theorem mix_put (ok : MuOk M) (hs : s < 4) {D : Db} (ag : Agr M s D) {nm : ByteArray} {u : Tb} (hu : u.nm = nm) (hex : findD M.com nm ≠ none) {K : ByteArray → Int} (hK : K nm = 2) (hK2 : ∀ m, m ≠ nm → K m = M.lk s m) : putT u (mixD (M.lk s) (M.see s) D) = mixD K (putT u (M.see s)) D := by
  have isD : (findD D nm).isSome = true := by
    rw [find_nms ag.nms nm]
    cases c : findD M.com nm with
    | none => exact absurd c hex
    | some _ => rfl
  obtain ⟨td, htd⟩ := Option.isSome_iff_exists.mp isD
  have isE : ∃ y ∈ mixD (M.lk s) (M.see s) D, y.nm = u.nm := ⟨mixT (M.lk s) (M.see s) td, List.mem_map.mpr ⟨td, (findD_mem htd).1, rfl⟩, by rw [mixT_nm, hu]; exact (findD_mem htd).2⟩
  have isS : ∃ y ∈ M.see s, y.nm = u.nm := by
    have h1 := find_nms (ok.nms s hs) nm
    have h2 : (findD (M.see s) nm).isSome = true := by rw [h1, ← find_nms ag.nms nm]; exact isD
    obtain ⟨y, hy⟩ := Option.isSome_iff_exists.mp h2
    exact ⟨y, (findD_mem hy).1, by rw [hu]; exact (findD_mem hy).2⟩
  refine db_ext (putBy_srt _ (mix_srt ag.srt)) (mix_srt ag.srt) (fun m => ?_)
  rw [find_putT (mix_srt ag.srt) isE, find_mix, find_mix]
  by_cases c : m = nm
  · subst c
    rw [if_pos hu.symm, htd, Option.map_some]
    unfold mixT
    rw [(findD_mem htd).2, if_pos hK, find_putT (ok.gs s hs).srt isS, if_pos hu.symm]
    rfl
  · rw [if_neg (by rw [hu]; exact c)]
    cases hf : findD D m with
    | none => rfl
    | some t =>
      obtain ⟨_, rfl⟩ := findD_mem hf
      rw [Option.map_some, Option.map_some]
      unfold mixT
      have hne : ¬ t.nm = u.nm := by rw [hu]; exact c
      rw [hK2 _ c, find_putT (ok.gs s hs).srt isS, if_neg hne]
theorem mix_lock (ok : MuOk M) (hs : s < 4) {D : Db} (ag : Agr M s D) {nm : ByteArray} (hsame : findD D nm = findD M.com nm) {K : ByteArray → Int} (hK2 : ∀ m, m ≠ nm → K m = M.lk s m) (hK : K nm = 2 ∨ M.lk s nm ≠ 2) : mixD (M.lk s) (M.see s) D = mixD K (M.see s) D := by
  refine db_ext (mix_srt ag.srt) (mix_srt ag.srt) (fun m => ?_)
  by_cases c : m = nm
  · subst c
    rw [find_E ok hs ag (.inl hsame), find_mix]
    have hn := find_nms (ok.nms s hs) m
    have hn2 := find_nms ag.nms m
    cases hf : findD D m with
    | none =>
      rw [hf] at hn2
      cases hg : findD (M.see s) m with
      | none => rfl
      | some _ => rw [hg, ← hn2] at hn; cases hn
    | some t =>
      obtain ⟨_, rfl⟩ := findD_mem hf
      rw [Option.map_some]
      unfold mixT
      rw [hf] at hn2
      rw [← hn2] at hn
      obtain ⟨u, hu⟩ := Option.isSome_iff_exists.mp hn
      by_cases k2 : K t.nm = 2
      · rw [if_pos k2, hu]; rfl
      · rw [if_neg k2]
        rcases hK with h | h
        · exact absurd h k2
        · rw [ok.out s _ hs h, ← hsame, hf]
  · rw [find_mix, find_mix]
    cases hf : findD D m with
    | none => rfl
    | some t =>
      obtain ⟨_, rfl⟩ := findD_mem hf
      rw [Option.map_some, Option.map_some]
      unfold mixT
      rw [hK2 _ c]
theorem setL_lk (M : Mu) (s : Nat) (nm : ByteArray) (mode : Int) (m : ByteArray) : (M.setL s nm mode).lk s m = if m = nm ∧ M.lk s nm < mode then mode else M.lk s m := by
  show (if s = s ∧ m = nm ∧ M.lk s nm < mode then mode else M.lk s m) = _
  by_cases c : m = nm ∧ M.lk s nm < mode
  · rw [if_pos ⟨rfl, c⟩, if_pos c]
  · rw [if_neg (fun x => c x.2), if_neg c]
theorem on_E {E S : Db} {nm : ByteArray} {f : Tb → Tb × Int} (h : findD E nm = findD S nm) : (onT E nm f).2 = (onT S nm f).2 ∧ ((onT E nm f).1 = E ∧ (onT S nm f).1 = S ∨ ∃ t, findD S nm = some t ∧ (f t).2 = 0 ∧ (onT E nm f).1 = putT (f t).1 E ∧ (onT S nm f).1 = putT (f t).1 S) := by
  unfold onT
  rw [h]
  cases c : findD S nm with
  | none => exact ⟨rfl, .inl ⟨rfl, rfl⟩⟩
  | some t =>
    simp only
    by_cases z : (f t).2 = 0
    · rw [if_pos z, if_pos z]
      exact ⟨by trivial, .inr ⟨t, rfl, z, rfl, rfl⟩⟩
    · rw [if_neg z, if_neg z]
      exact ⟨by trivial, .inl ⟨rfl, rfl⟩⟩
theorem insR_nm (t : Tb) (row : List Vl) : (insR t row).1.nm = t.nm := by
  unfold insR
  split
  · rfl
  · cases fndK t (pkK t.pk row) with
    | some _ => rfl
    | none => simp only; split <;> rfl
theorem updR_nm (t : Tb) (row : List Vl) : (updR t row).1.nm = t.nm := by
  unfold updR
  split
  · rfl
  · cases fndK t (pkK t.pk row) <;> rfl
theorem delR_nm (t : Tb) (key : Vl) : (delR t key).1.nm = t.nm := by
  unfold delR
  split
  · rfl
  · cases fndK t (cV key) <;> rfl
end
structure An where
  e : Int
  n : Int
  row : List Vl
  rows : List (List Vl)
  nm : ByteArray
  cols : List Cl
  pk : Int
  ix : Int
  names : List ByteArray
def An.z : An := ⟨0, 0, [], [], ⟨#[]⟩, [], 0, 0, []⟩
def anE (e : Int) : An := { An.z with e := e }
def anN (n : Int) : An := { An.z with n := n }
def anS (D : Db) (nm : ByteArray) : An := match findD D nm with
  | none => { An.z with e := 10, ix := -1 }
  | some t => { An.z with nm := t.nm, cols := t.cols, pk := (t.pk : Int), ix := ixI t.ix }
def anV (M : Mu) (s : Int) (nm : ByteArray) : An := if gdS s then (match findD M.com nm with
  | none => anE 10
  | some _ => { An.z with rows := ((findD (M.see s.toNat) nm).map (fun t => t.rows)).getD [] }) else anE 20
theorem Only.late {B C : Nat → Prop} {w w' w1 : World} (o : Only B w w') (ho : Only C w' w1) (hC : ∀ k, C k → w.heap.size ≤ k) : Only B w w1 :=
  ((o.mono (T := fun k => B k ∨ w.heap.size ≤ k) (fun k _ h => .inl h)).trans (ho.mono (T := fun k => B k ∨ w.heap.size ≤ k) (fun k _ h => .inr (hC k h))) (fun _ _ h => h)).mono (fun k hl h => h.elim id (fun c => by omega))
end Go.Proofs.Qxb6500412aGreat
