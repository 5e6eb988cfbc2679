/-
  OWN WORK. THE OBJECT STORE's BUCKETS: hang, unhang, find.
-/
import Derived.Test.Qxb6500417aGreatORel
namespace Go.Proofs.Qxb6500417aGreat
open Go.RowKit
set_option linter.unusedSimpArgs false
set_option linter.unusedVariables false

structure Ob where
  st : Nat
  kd : Nat
  dat : List Nat
  ch : List Nat
def dF (l : List Nat) : Nat → Nat := fun j => l.getD j 0
structure Held (D : Nat → Nat) (e : Ent) (o : Ob) : Prop where
  kind : e.kind = o.kd
  k1 : 1 ≤ o.kd
  k4 : o.kd ≤ 4
  size : e.size = o.dat.length
  n180 : o.dat.length ≤ 180
  first : e.first = o.ch.getD 0 0
  hash : e.hash = hashN (dF o.dat) o.kd o.dat.length
  lies : Lies D o.kd o.dat.length (dF o.dat) o.ch
  by8 : ∀ j, j < o.dat.length → dF o.dat j < 256
theorem Held.hlt {D : Nat → Nat} {e : Ent} {o : Ob} (h : Held D e o) : e.hash < 4294967296 := by
  rw [h.hash]
  exact hashN_lt _ _ (by have := h.k4; omega) _

/-- A bucket: the ids l hang from the head h. -/
structure Linked (tab : Nat → Ent) (h : Nat) (l : List Nat) : Prop where
  head : h = l.getD 0 0
  next : ∀ i, i < l.length → (tab (l.getD i 0)).next = l.getD (i + 1) 0
  ids : ∀ a ∈ l, 1 ≤ a ∧ a ≤ 48
  nodup : l.Nodup
theorem getD_mem {l : List Nat} {i : Nat} (h : i < l.length) : l.getD i 0 ∈ l := by
  rw [List.getD_eq_getElem?_getD, List.getElem?_eq_getElem h]
  exact List.getElem_mem h
theorem getD_out {l : List Nat} {i : Nat} (h : l.length ≤ i) : l.getD i 0 = 0 := by
  rw [List.getD_eq_getElem?_getD, List.getElem?_eq_none h]; rfl
theorem getD_in {l : List Nat} {i : Nat} (h : i < l.length) : l.getD i 0 = l[i] := by
  rw [List.getD_eq_getElem?_getD, List.getElem?_eq_getElem h]; rfl
theorem nodup_inj {l : List Nat} (h : l.Nodup) {i j : Nat} (hi : i < l.length) (hj : j < l.length) (e : l.getD i 0 = l.getD j 0) : i = j := by
  rw [getD_in hi, getD_in hj] at e
  exact (List.getElem_inj h).1 e
theorem nodup_le : ∀ (N : Nat) (l : List Nat), l.Nodup → (∀ a ∈ l, 1 ≤ a ∧ a ≤ N) → l.length ≤ N := by
  intro N
  induction N with
  | zero =>
    intro l _ h
    cases l with
    | nil => simp
    | cons a r => have := h a (by simp); omega
  | succ N ih =>
    intro l hn h
    by_cases hm : (N + 1) ∈ l
    · have := ih (l.erase (N + 1)) (hn.erase _) (fun a ha => by
        rw [hn.mem_erase_iff] at ha
        have := h a ha.2
        omega)
      rw [List.length_erase_of_mem hm] at this
      omega
    · have := ih l hn (fun a ha => by
        have h1 := h a ha
        have : a ≠ N + 1 := fun e => hm (e ▸ ha)
        omega)
      omega
section
variable {tab : Nat → Ent} {h : Nat} {l : List Nat}
theorem Linked.len (H : Linked tab h l) : l.length ≤ 48 := nodup_le 48 l H.nodup H.ids
theorem Linked.congr {tab' : Nat → Ent} (H : Linked tab h l) (he : ∀ a ∈ l, (tab' a).next = (tab a).next) : Linked tab' h l :=
  ⟨H.head, fun i hi => by rw [he _ (getD_mem hi)]; exact H.next i hi, H.ids, H.nodup⟩
theorem Linked.cons {tab' : Nat → Ent} (H : Linked tab h l) (id : Nat) (h1 : 1 ≤ id) (h2 : id ≤ 48) (hn : id ∉ l) (he : ∀ a ∈ l, (tab' a).next = (tab a).next) (hi : (tab' id).next = h) : Linked tab' id (id :: l) := by
  refine ⟨rfl, ?_, ?_, ?_⟩
  · intro i hi'
    cases i with
    | zero => show (tab' id).next = l.getD 0 0; rw [hi]; exact H.head
    | succ i =>
      have hi2 : i < l.length := by simpa using hi'
      show (tab' (l.getD i 0)).next = l.getD (i + 1) 0
      rw [he _ (getD_mem hi2)]
      exact H.next i hi2
  · intro a ha
    rcases List.mem_cons.1 ha with rfl | ha
    · exact ⟨h1, h2⟩
    · exact H.ids a ha
  · exact List.nodup_cons.2 ⟨hn, H.nodup⟩
theorem erase_getD (l : List Nat) (p i : Nat) (hp : p < l.length) : (l.eraseIdx p).getD i 0 = if i < p then l.getD i 0 else l.getD (i + 1) 0 := by
  simp only [List.getD_eq_getElem?_getD, List.getElem?_eraseIdx]
  split <;> rfl
theorem erase_mem {l : List Nat} (hn : l.Nodup) {p : Nat} (hp : p < l.length) (a : Nat) : a ∈ l.eraseIdx p ↔ a ∈ l ∧ a ≠ l.getD p 0 := by
  rw [List.mem_eraseIdx_iff_getElem]
  constructor
  · rintro ⟨i, hi, hne, rfl⟩
    refine ⟨List.getElem_mem hi, fun e => hne ?_⟩
    rw [getD_in hp] at e
    exact (List.getElem_inj hn).1 e
  · rintro ⟨hm, hne⟩
    obtain ⟨i, hi, rfl⟩ := List.getElem_of_mem hm
    refine ⟨i, hi, fun e => hne ?_, rfl⟩
    subst e
    rw [getD_in hp]
/-- The list behind the taking out of its element p. -/
theorem Linked.erase {tab' : Nat → Ent} {h' p : Nat} (H : Linked tab h l) (hp : p < l.length)
    (h0 : p = 0 → h' = l.getD 1 0) (h1 : p ≠ 0 → h' = h ∧ (tab' (l.getD (p - 1) 0)).next = l.getD (p + 1) 0)
    (he : ∀ a ∈ l, a ≠ l.getD p 0 → (p ≠ 0 → a ≠ l.getD (p - 1) 0) → (tab' a).next = (tab a).next) : Linked tab' h' (l.eraseIdx p) := by
  refine ⟨?_, ?_, ?_, ?_⟩
  · rw [erase_getD _ _ _ hp]
    by_cases e : p = 0
    · rw [if_neg (by omega)]; exact h0 e
    · rw [if_pos (by omega), (h1 e).1]; exact H.head
  · intro i hi
    rw [List.length_eraseIdx_of_lt hp] at hi
    rw [erase_getD _ _ _ hp, erase_getD _ _ _ hp]
    by_cases e : i < p
    · rw [if_pos e]
      by_cases e2 : i + 1 = p
      · rw [if_neg (by omega)]
        have : i = p - 1 := by omega
        subst this
        rw [(h1 (by omega)).2]
        congr 1
        omega
      · rw [if_pos (by omega), he _ (getD_mem (by omega))]
        · exact H.next i (by omega)
        · intro e3; have := nodup_inj H.nodup (by omega) hp e3; omega
        · intro _ e3; have := nodup_inj H.nodup (by omega) (by omega) e3; omega
    · rw [if_neg e, if_neg (by omega), he _ (getD_mem (by omega))]
      · exact H.next (i + 1) (by omega)
      · intro e3; have := nodup_inj H.nodup (by omega) hp e3; omega
      · intro _ e3; have := nodup_inj H.nodup (by omega) (by omega) e3; omega
  · intro a ha
    exact H.ids a ((erase_mem H.nodup hp a).1 ha).1
  · exact H.nodup.sublist (List.eraseIdx_sublist _ _)
end

section
variable {w : World} {s d : Nat} {tab : Nat → Ent} {hd us : Nat → Nat} {nf rt : Nat} {D B : Nat → Nat} {recs : List Rec} {F : Nat → Prop}

def setNext (tab : Nat → Ent) (id x : Nat) : Nat → Ent := updT tab id { tab id with next := x }
theorem SAt.setNext (h : SAt w s d tab hd us nf rt) (i : Nat) (hi : i < 49) (x : Nat) : SAt (w.setCell ⟨s, 1 + i * 6 + 5, none⟩ (.int .i64 (x : Int))) s d (setNext tab i x) hd us nf rt :=
  h.setEnt i 5 hi (by omega) _ _ rfl (fun g hg hg5 => by
    match g, hg with
    | 0, _ => rfl
    | 1, _ => rfl
    | 2, _ => rfl
    | 3, _ => rfl
    | 4, _ => rfl
    | 5, _ => exact absurd rfl hg5)

set_option maxRecDepth 100000 in
set_option maxHeartbeats 2000000 in
theorem hang_any (h : SAt w s d tab hd us nf rt) (id : Nat) (hid : id < 49) (hh : (tab id).hash < 4294967296) :
    Calls Tryz.prog 65 #[.pointer (some ⟨s, 0, none⟩), .int .i64 id] w fun e w' => e = .returned (.tuple #[]) ∧ SAt w' s d (setNext tab id (hd ((tab id).hash % 8))) (updT hd ((tab id).hash % 8) id) us nf rt ∧ Only (fun k => k = s) w w' := by
  have c4 := (h.ent id 4 hid (by omega)).1
  have c5 := h.ent id 5 hid (by omega)
  simp only [entCell] at c4 c5
  have C1 := hide (obucket_any (tab id).hash hh w)
  have b8 : (tab id).hash % 8 < 8 := Nat.mod_lt _ (by omega)
  have ch_ := h.head ((tab id).hash % 8) b8
  have s1 := h.setNext id hid (hd ((tab id).hash % 8))
  have ch2 := s1.head ((tab id).hash % 8) b8
  have Hp := hide (s1.setHead ((tab id).hash % 8) b8 id)
  have hid' : (id : Int) < 49 := by omega
  clear s1
  generalize (tab id).hash % 8 = b at *
  have b8' : (b : Int) < 8 := by omega
  generalize hd b = hb at *
  go_enter Tryz.func65, Tryz.ntmps65
  go_wp2_with fail
  refine (unhide C1).mono ?_
  rintro e w1 ⟨rfl, rfl⟩
  go_wp2_with fail
  go_region
  all_goals
    go_wp2_with fail
    go_end0
    exact ⟨rfl, Has.drew (unhide Hp), ((only1 (p := s) (1 + id * 6 + 5) _).setCell (p := ⟨s, 295 + b, none⟩) (fun _ => rfl) _).drew⟩

/-- Only the field next turned. -/
def NextOnly (tab tab' : Nat → Ent) : Prop := ∀ j, ∃ x, tab' j = { tab j with next := x }
theorem NextOnly.refl (tab : Nat → Ent) : NextOnly tab tab := fun j => ⟨(tab j).next, rfl⟩
theorem NextOnly.setNext {tab tab' : Nat → Ent} (h : NextOnly tab tab') (i x : Nat) : NextOnly tab (setNext tab' i x) := by
  intro j
  unfold Go.Proofs.Qxb6500417aGreat.setNext updT
  by_cases e : j = i
  · subst e
    obtain ⟨y, hy⟩ := h j
    rw [if_pos rfl, hy]
    exact ⟨x, rfl⟩
  · rw [if_neg e]; exact h j
theorem setNext_other {tab : Nat → Ent} {i j x : Nat} (h : j ≠ i) : setNext tab i x j = tab j := by unfold setNext; exact updT_other _ _ _ _ h
theorem setNext_same {tab : Nat → Ent} {i x : Nat} : (setNext tab i x i).next = x := by unfold setNext; rw [updT_same]

structure Unhung (tab tab' : Nat → Ent) (hd hd' : Nat → Nat) (b id p : Nat) (l : List Nat) : Prop where
  nx : NextOnly tab tab'
  out : ∀ j, j ∉ l → tab' j = tab j
  zero : (tab' id).next = 0
  link : Linked tab' (hd' b) (l.eraseIdx p)
  heads : ∀ c, c ≠ b → hd' c = hd c

theorem unhung_first {b id : Nat} {l : List Nat} (hl : Linked tab (hd b) l) (hp : 0 < l.length) (hip : l.getD 0 0 = id) : Unhung tab (setNext tab id 0) hd (updT hd b (tab id).next) b id 0 l := by
  have hm := getD_mem hp
  refine ⟨(NextOnly.refl tab).setNext id 0, ?_, setNext_same, ?_, fun c hc => updT_other _ _ _ _ hc⟩
  · intro j hj
    exact setNext_other (fun e => hj (by rw [e, ← hip]; exact hm))
  · refine hl.erase hp (fun _ => ?_) (fun h => absurd rfl h) ?_
    · rw [updT_same, ← hip]; exact hl.next 0 hp
    · intro a ha hne _
      rw [setNext_other (fun e => hne (by rw [hip]; exact e))]
theorem unhung_later {b id p : Nat} {l : List Nat} (hl : Linked tab (hd b) l) (hp : p + 1 < l.length) (hip : l.getD (p + 1) 0 = id) : Unhung tab (setNext (setNext tab (l.getD p 0) (tab id).next) id 0) hd hd b id (p + 1) l := by
  have hm := getD_mem hp
  have hm2 : l.getD p 0 ∈ l := getD_mem (by omega)
  have hne : l.getD p 0 ≠ id := fun e => by
    have := nodup_inj hl.nodup (i := p) (j := p + 1) (by omega) hp (by rw [e, hip])
    omega
  refine ⟨((NextOnly.refl tab).setNext _ _).setNext id 0, ?_, setNext_same, ?_, fun c hc => rfl⟩
  · intro j hj
    rw [setNext_other (fun e => hj (by rw [e, ← hip]; exact hm)), setNext_other (fun e => hj (by rw [e]; exact hm2))]
  · refine hl.erase hp (fun h => by omega) (fun _ => ⟨rfl, ?_⟩) ?_
    · have e1 : p + 1 - 1 = p := by omega
      rw [e1, setNext_other hne, setNext_same, ← hip]
      exact hl.next (p + 1) hp
    · intro a ha h1 h2
      have h2' := h2 (by omega)
      have e1 : p + 1 - 1 = p := by omega
      rw [e1] at h2'
      rw [setNext_other (fun e => h1 (by rw [hip]; exact e)), setNext_other h2']

set_option maxRecDepth 100000 in
set_option maxHeartbeats 4000000 in
theorem unhang_any (h : SAt w s d tab hd us nf rt) (id : Nat) (hid : id < 49) (hh : (tab id).hash < 4294967296) (l : List Nat) (p : Nat) (hl : Linked tab (hd ((tab id).hash % 8)) l) (hp : p < l.length) (hip : l.getD p 0 = id) :
    Calls Tryz.prog 178 #[.pointer (some ⟨s, 0, none⟩), .int .i64 id] w fun e w' => e = .returned (.tuple #[]) ∧ (∃ tab' hd', SAt w' s d tab' hd' us nf rt ∧ Unhung tab tab' hd hd' ((tab id).hash % 8) id p l) ∧ Only (fun k => k = s) w w' := by
  have c4 := (h.ent id 4 hid (by omega)).1
  have c5 := h.ent id 5 hid (by omega)
  simp only [entCell] at c4 c5
  have C1 := hide (obucket_any (tab id).hash hh w)
  have b8 : (tab id).hash % 8 < 8 := Nat.mod_lt _ (by omega)
  have ch_ := h.head ((tab id).hash % 8) b8
  have hid' : (id : Int) < 49 := by omega
  have hlen := hl.len
  generalize (tab id).hash % 8 = b at *
  have b8' : (b : Int) < 8 := by omega
  have hhd := hl.head
  have Hl := hide hl
  clear hl
  match p, hp, hip with
  | 0, hp, hip =>
    have e0 : hd b = id := by rw [hhd, hip]
    have Hu := hide (unhung_first (unhide Hl) hp hip)
    have s1 := h.setHead b b8 (tab id).next
    have Hp := hide (s1.setNext id hid 0)
    have k5 := s1.ent id 5 hid (by omega)
    simp only [entCell] at k5
    rw [e0] at ch_
    clear hhd e0 s1
    generalize (tab id).next = nx at *
    have eq0 : ((id : Int) == (id : Int)) = true := by simp
    go_enter Tryz.func178, Tryz.ntmps178
    go_wp2_with fail
    refine (unhide C1).mono ?_
    rintro e w1 ⟨rfl, rfl⟩
    go_wp2_with fail
    go_region
    all_goals
      go_wp2_with fail
      refine bodyPost_ret (v := .tuple #[]) (by simp [results, Tryz.results178, go_sem]) rfl ?_
      exact ⟨rfl, ⟨_, _, Has.drew (unhide Hp), unhide Hu⟩, ((only1 (p := s) (295 + b) _).setCell (p := ⟨s, 1 + id * 6 + 5, none⟩) (fun _ => rfl) _).drew⟩
  | p + 1, hp, hip =>
    have e0 : hd b ≠ id := fun e => by
      have := nodup_inj (unhide Hl).nodup (i := 0) (j := p + 1) (by omega) hp (by rw [← hhd, e, hip])
      omega
    have Hu := hide (unhung_later (unhide Hl) hp hip)
    have hpm := (unhide Hl).ids _ (getD_mem (i := p) (by omega))
    have s1 := h.setNext (l.getD p 0) (by omega) (tab id).next
    have Hp := hide (s1.setNext id hid 0)
    have k5 := s1.ent id 5 hid (by omega)
    simp only [entCell] at k5
    have cp := h.ent (l.getD p 0) 5 (by omega) (by omega)
    simp only [entCell] at cp
    rw [(unhide Hl).next p (by omega), hip] at cp
    have hb0 : ((hd b : Int) == (id : Int)) = false := ne_intO (by omega)
    clear s1
    generalize hq : l.getD p 0 = q at *
    have Hq := hide hq
    clear hq
    have nqi : q ≠ id := fun e => by
      have := nodup_inj (unhide Hl).nodup (i := p) (j := p + 1) (by omega) hp (by rw [unhide Hq, e, hip])
      omega
    generalize hnx : (tab id).next = nx at *
    generalize hdb : hd b = h0 at *
    have Hdb := hide hdb
    have Hip := hide hip
    have Hnx := hide hnx
    have Hhd := hide hhd
    clear hdb hip hnx hhd
    go_enter Tryz.func178, Tryz.ntmps178
    go_wp2_with fail
    refine (unhide C1).mono ?_
    rintro e w1 ⟨rfl, rfl⟩
    go_wp2_with fail
    go_loop [5, 6] (fun av iv => ∃ i : Nat, i ≤ p ∧ av = .int .i64 (l.getD i 0 : Nat) ∧ iv = .int .i64 i) (fun _ iv => (48 - intOf iv).toNat)
    case atStart => exact ⟨0, by omega, by rw [unhide Hhd], rfl⟩
    case round =>
      obtain ⟨i, hi, rfl, rfl⟩ := hrel
      have hi8 : decide ((i : Int) < 48) = true := by simp; omega
      by_cases e : i = p
      · subst e
        rw [unhide Hq]
        have hq0 : ((q : Int) != 0) = true := by simp; omega
        have hq4 : (q : Int) < 49 := by omega
        have hii : ((id : Int) == (id : Int)) = true := by simp
        go_wp2_with fail
        go_region
        all_goals
          go_wp2_with fail
          refine bodyPost_ret (v := .tuple #[]) (by simp [results, Tryz.results178, go_sem]) rfl ?_
          exact ⟨rfl, ⟨_, _, Has.drew (unhide Hp), unhide Hu⟩, ((only1 (p := s) (1 + q * 6 + 5) _).setCell (p := ⟨s, 1 + id * 6 + 5, none⟩) (fun _ => rfl) _).drew⟩
      · have hm := (unhide Hl).ids _ (getD_mem (i := i) (by omega))
        have ci := (h.ent (l.getD i 0) 5 (by omega) (by omega)).1
        simp only [entCell] at ci
        rw [(unhide Hl).next i (by omega)] at ci
        have hne : l.getD (i + 1) 0 ≠ id := fun e2 => by
          have := nodup_inj (unhide Hl).nodup (i := i + 1) (j := p + 1) (by omega) hp (by rw [e2, unhide Hip])
          omega
        generalize l.getD i 0 = a at *
        generalize hb' : l.getD (i + 1) 0 = a' at *
        have Hb' := hide hb'
        have ha0 : ((a : Int) != 0) = true := by simp; omega
        have ha4 : (a : Int) < 49 := by omega
        have haa : ((a' : Int) == (id : Int)) = false := ne_intO (by omega)
        clear hb'
        go_wp2_with fail
        go_round
        case rel => exact ⟨i + 1, by omega, by rw [unhide Hb'], by go_num⟩
        case measure => simp [intOf]; omega

/-- find: what the bucket's walk answers. -/
def Hit (ob : Nat → Ob) (k : Nat) (dat : List Nat) (a : Nat) : Prop := (ob a).kd = k ∧ (ob a).dat = dat
end
end Go.Proofs.Qxb6500417aGreat
