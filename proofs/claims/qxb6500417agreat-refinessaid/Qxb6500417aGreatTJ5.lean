/-
  OWN WORK. THE TREE: ReadTree, Members and the order of rows, plain.
-/
import Derived.Test.Qxb6500417aGreatTJ4
namespace Go.Proofs.Qxb6500417aGreat
open Go.RowKit Go.PlainAid
set_option linter.unusedSimpArgs false
set_option linter.unusedVariables false

def addP (p : Str) (e : En) : En := { e with path := p ++ e.path }
theorem addP_under (p a : Str) (e : En) : addP p (under a e) = addP (p ++ a ++ [47]) e := by simp [addP, under]
theorem addP_nil (e : En) : addP [] e = e := rfl
def flatP : Nat → (Nat → Sl) → Nat → Str → List En
  | 0, _, _, _ => []
  | n + 1, J, i, p => (J i).rws.flatMap (fun r => if r.dir = true then flatP n J r.id (p ++ r.name ++ [47]) else [⟨p ++ r.name, r.id, r.mode⟩])
theorem flat_rel {J : Nat → Sl} {n : Nat} (ih : ∀ i, In i → (J i).st ≠ 0 → (J i).kd = 2 → Deep n (J i).lst → ∀ p, flatP n J i p = (J i).lst.map (addP p)) :
    ∀ (ts : List Tp) (rs : List Rw), RelL J ts rs → (∀ r ∈ rs, In r.id ∧ (J r.id).st ≠ 0) → (∀ a sub, Tp.d a sub ∈ ts → Deep n sub) → ∀ p, rs.flatMap (fun r => if r.dir = true then flatP n J r.id (p ++ r.name ++ [47]) else [⟨p ++ r.name, r.id, r.mode⟩]) = (ts.flatMap untop).map (addP p)
  | [], [], _, _, _, p => rfl
  | t :: ts, r :: rs, h, hr, hd, p => by
    rw [List.flatMap_cons, List.flatMap_cons, List.map_append, flat_rel ih ts rs h.2 (fun x hx => hr x (by simp [hx])) (fun a sub hm => hd a sub (by simp [hm])) p]
    congr 1
    have h1 := h.1
    cases t with
    | f e =>
      obtain ⟨b1, b2, b3, b4, _⟩ := h1
      rw [if_neg (by rw [b1]; simp), b2, b3, b4]
      rfl
    | d a sub =>
      obtain ⟨b1, b2, _, b4, b5⟩ := h1
      have hr1 := hr r (by simp)
      rw [if_pos b1, ih r.id hr1.1 hr1.2 b4 (by rw [b5]; exact hd a sub (by simp)), b5, b2]
      show sub.map (addP (p ++ a ++ [47])) = (sub.map (under a)).map (addP p)
      rw [List.map_map]
      refine List.map_congr_left (fun x _ => ?_)
      exact (addP_under p a x).symm
  | [], _ :: _, h, _, _, _ => h.elim
  | _ :: _, [], h, _, _, _ => h.elim
theorem flatP_eq {J : Nat → Sl} (hI : Inv J) : ∀ (n i : Nat), In i → (J i).st ≠ 0 → (J i).kd = 2 → Deep n (J i).lst → ∀ p, flatP n J i p = (J i).lst.map (addP p)
  | 0, i, hi, h0, hk, hd, p => by
    have : (J i).lst = [] := by
      cases h : (J i).lst with
      | nil => rfl
      | cons e r => have := hd e (by rw [h]; simp); omega
    rw [this]
    rfl
  | n + 1, i, hi, h0, hk, hd, p => by
    have ht := hI.tr i hi h0 hk
    unfold flatP
    rw [flat_rel (fun j hj hj0 hjk hjd p => flatP_eq hI n j hj hj0 hjk hjd p) (tp (J i).lst) (J i).rws ht.rel (fun r hr => hI.kid hi h0 hr) (fun a sub hm => hd.sub hm) p, tp_flat]
theorem flatP_root {J : Nat → Sl} (hI : Inv J) {i : Nat} (hi : In i) (h0 : (J i).st ≠ 0) (hk : (J i).kd = 2) : flatP 6 J i [] = (J i).lst := by
  rw [flatP_eq hI 6 i hi h0 hk (hI.tr i hi h0 hk).fine.deep]
  conv => rhs; rw [← List.map_id (J i).lst]
  exact List.map_congr_left (fun x _ => addP_nil x)
def setB (s : Nat → Bool) (i : Nat) : Nat → Bool := fun j => if j = i then true else s j
theorem setB_id {s : Nat → Bool} {i : Nat} (h : s i = true) : setB s i = s := by
  funext j
  unfold setB
  by_cases e : j = i
  · rw [if_pos e, e, h]
  · rw [if_neg e]
def markP : Nat → (Nat → Sl) → Nat → (Nat → Bool) → (Nat → Bool)
  | 0, _, _, s => s
  | n + 1, J, i, s => if s i = true then s else (J i).rws.foldl (fun s r => if r.dir = true then markP n J r.id s else setB s r.id) (setB s i)
def keyR (r : Rw) : Str := if r.dir = true then r.name ++ [47] else r.name
def keyT : Tp → Str
  | .f e => e.path
  | .d a _ => a ++ [47]
theorem keyT_eq {J : Nat → Sl} {t : Tp} {r : Rw} (h : RelT J t r) : keyR r = keyT t := by
  unfold keyR
  cases t with
  | f e => rw [if_neg (by rw [h.1]; simp), h.2.1]; rfl
  | d a sub => rw [if_pos h.1, h.2.1]; rfl
theorem pre_lt {a x e : Str} (h1 : bl e (a ++ x) = true) (hn : ¬ a <+: e) : bl e a = true := by
  rcases bl_total e a with h | h | h
  · exact h
  · subst h; exact absurd (List.prefix_refl e) hn
  · have := bl_left a e x h hn
    rw [bl_asymm h1] at this
    cases this
theorem lt_pre {a x e : Str} (h1 : bl (a ++ x) e = true) (hn : a ≠ e) : bl a e = true := by
  rcases bl_total a e with h | h | h
  · exact h
  · exact absurd h hn
  · have := bl_right e a x h
    rw [bl_asymm h1] at this
    cases this
theorem cut_pre {a p : Str} (ha : (47 : UInt8) ∉ a) (h : a ++ [47] <+: p) : ∃ b, cutS p = some (a, b) := by
  obtain ⟨t, rfl⟩ := h
  exact ⟨t, cutS_some.2 ⟨by simp, ha⟩⟩
theorem key_lt {t t' : Tp} {ts : List Tp} (hc : CanT t) (hc' : CanT t') (hn : nextOk t (t' :: ts)) (hs : ∀ x ∈ untop t, ∀ y ∈ untop t', bl x.path y.path = true) : bl (keyT t) (keyT t') = true := by
  cases t with
  | f e =>
    cases t' with
    | f e' => exact hs e (by simp [untop]) e' (by simp [untop])
    | d b sub =>
      obtain ⟨y, r, rfl⟩ := List.exists_cons_of_ne_nil hc'.2
      have h := hs e (by simp [untop]) (under b y) (by simp [untop])
      have e1 : (under b y).path = (b ++ [47]) ++ y.path := by simp [under]
      rw [e1] at h
      refine pre_lt h (fun hp => ?_)
      obtain ⟨t, ht⟩ := hp
      have ht' : (b ++ [47]) ++ t = e.path := ht
      exact hc (by rw [← ht']; simp)
  | d a sub =>
    obtain ⟨x, r, rfl⟩ := List.exists_cons_of_ne_nil hc.2
    have e1 : (under a x).path = (a ++ [47]) ++ x.path := by simp [under]
    cases t' with
    | f e' =>
      have h := hs (under a x) (by simp [untop]) e' (by simp [untop])
      rw [e1] at h
      refine lt_pre h (fun e => ?_)
      have e2 : a ++ [47] = e'.path := e
      exact hc' (by rw [← e2]; simp)
    | d b sub' =>
      obtain ⟨y, r', rfl⟩ := List.exists_cons_of_ne_nil hc'.2
      have e2 : (under b y).path = (b ++ [47]) ++ y.path := by simp [under]
      have h := hs (under a x) (by simp [untop]) (under b y) (by simp [untop])
      have hab : a ≠ b := hn
      rw [e1, e2] at h
      have h2 : bl ((a ++ [47]) ++ x.path) (b ++ [47]) = true := pre_lt h (fun hp => by
        obtain ⟨q, hq⟩ := cut_pre hc'.1 hp
        have h3 : cutS ((a ++ [47]) ++ x.path) = some (a, x.path) := cutS_some.2 ⟨by simp, hc.1⟩
        rw [h3] at hq
        simp at hq
        exact hab hq.1)
      exact lt_pre h2 (fun e => hab (by have e3 : a ++ [47] = b ++ [47] := e; simpa using e3))
theorem keys_sorted : ∀ (ts : List Tp), Can ts → (ts.flatMap untop).Pairwise (fun a b => bl a.path b.path = true) → ∀ i (h : i + 1 < ts.length), bl (keyT ts[i]) (keyT ts[i + 1]) = true
  | [], _, _, i, h => by simp at h
  | [t], _, _, i, h => by simp at h
  | t :: t' :: ts, hc, hs, 0, h => by
    rw [List.flatMap_cons, List.pairwise_append] at hs
    exact key_lt hc.1 hc.2.2.1 hc.2.1 (fun x hx y hy => hs.2.2 x hx y (by rw [List.flatMap_cons]; exact List.mem_append_left _ hy))
  | t :: t' :: ts, hc, hs, i + 1, h => by
    rw [List.flatMap_cons, List.pairwise_append] at hs
    exact keys_sorted (t' :: ts) hc.2.2 hs.2.1 i (by simpa using h)
theorem RelL.len {J : Nat → Sl} : ∀ {ts : List Tp} {rs : List Rw}, RelL J ts rs → ts.length = rs.length
  | [], [], _ => rfl
  | _ :: _, _ :: _, h => by simp [RelL.len h.2]
  | [], _ :: _, h => h.elim
  | _ :: _, [], h => h.elim
theorem RelL.get {J : Nat → Sl} : ∀ {ts : List Tp} {rs : List Rw} (h : RelL J ts rs) (i : Nat) (h1 : i < ts.length) (h2 : i < rs.length), RelT J ts[i] rs[i]
  | _ :: _, _ :: _, h, 0, _, _ => h.1
  | _ :: _, _ :: _, h, i + 1, h1, h2 => RelL.get h.2 i (by simpa using h1) (by simpa using h2)
  | [], _ :: _, h, _, _, _ => h.elim
  | _ :: _, [], h, _, _, _ => h.elim
theorem TreeOk.keys {J : Nat → Sl} {s : Sl} (h : TreeOk J s) (i : Nat) (hi : i + 1 < s.rws.length) : bl (keyR (s.rws[i]'(by omega))) (keyR s.rws[i + 1]) = true := by
  have hl := h.rel.len
  rw [keyT_eq (h.rel.get i (by omega) (by omega)), keyT_eq (h.rel.get (i + 1) (by omega) hi)]
  exact keys_sorted (tp s.lst) (tp_canon _) (by rw [tp_flat]; exact h.fine.srt) i (by omega)
end Go.Proofs.Qxb6500417aGreat
