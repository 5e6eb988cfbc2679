/-
  OWN WORK. THE GRAPH: Cost, Weight, Stay, plain; what a collection leaves is what Stay tells.
-/
import Derived.Test.Qxb6500417aGreatGWt1
import Derived.Test.Qxb6500417aGreatGCk2
namespace Go.Proofs.Qxb6500417aGreat
open Go.RowKit Go.PlainAid
set_option linter.unusedSimpArgs false
set_option linter.unusedVariables false

def hasS (s : List ByteArray) (x : ByteArray) : Bool := s.any (fun y => decide (y = x))
theorem hasS_iff {s : List ByteArray} {x : ByteArray} : hasS s x = true ↔ x ∈ s := by
  unfold hasS
  rw [List.any_eq_true]
  constructor
  · rintro ⟨y, hy, e⟩; rw [← of_decide_eq_true e]; exact hy
  · exact fun h => ⟨x, h, by simp⟩
def addO (s : List ByteArray) (x : ByteArray) : List ByteArray := if hasS s x = true then s else s ++ [x]
def addOs (s xs : List ByteArray) : List ByteArray := xs.foldl addO s
theorem addO_mem {s : List ByteArray} {x y : ByteArray} : y ∈ addO s x ↔ y ∈ s ∨ y = x := by
  unfold addO
  by_cases h : hasS s x = true
  · rw [if_pos h]
    exact ⟨.inl, fun e => e.elim id (fun e => by rw [e]; exact hasS_iff.1 h)⟩
  · rw [if_neg h]; simp
theorem addO_nodup {s : List ByteArray} {x : ByteArray} (h : s.Nodup) : (addO s x).Nodup := by
  unfold addO
  by_cases hc : hasS s x = true
  · rw [if_pos hc]; exact h
  · rw [if_neg hc, List.nodup_append]
    refine ⟨h, by simp, fun a ha b hb e => hc ?_⟩
    simp at hb
    rw [← hb, ← e]
    exact hasS_iff.2 ha
theorem addOs_mem : ∀ {xs s : List ByteArray} {y : ByteArray}, y ∈ addOs s xs ↔ y ∈ s ∨ y ∈ xs
  | [], s, y => by simp [addOs]
  | x :: xs, s, y => by
    show y ∈ addOs (addO s x) xs ↔ _
    rw [addOs_mem, addO_mem, List.mem_cons, or_assoc]
theorem addOs_nodup : ∀ {xs s : List ByteArray}, s.Nodup → (addOs s xs).Nodup
  | [], s, h => h
  | x :: xs, s, h => addOs_nodup (xs := xs) (addO_nodup h)
theorem addOs_append (s a b : List ByteArray) : addOs s (a ++ b) = addOs (addOs s a) b := by simp [addOs, List.foldl_append]
/-- The directories on the way of a path, what was read of it standing ahead. -/
def preS : Str → Str → List Str
  | _, [] => []
  | acc, c :: r => if c = 47 then (acc ++ [c]) :: preS (acc ++ [c]) r else preS (acc ++ [c]) r
theorem preS_mem : ∀ (p acc q : Str), q ∈ preS acc p ↔ ∃ a b, p = a ++ 47 :: b ∧ q = acc ++ a ++ [47]
  | [], acc, q => by simp [preS]
  | c :: r, acc, q => by
    unfold preS
    by_cases h : c = 47
    · rw [if_pos h, List.mem_cons, preS_mem r]
      constructor
      · rintro (e | ⟨a, b, e1, e2⟩)
        · exact ⟨[], r, by rw [h]; rfl, by rw [e, h]; simp⟩
        · exact ⟨c :: a, b, by rw [e1]; rfl, by rw [e2]; simp⟩
      · rintro ⟨a, b, e1, e2⟩
        cases a with
        | nil => left; rw [e2, h]; simp
        | cons d a =>
          simp at e1
          right
          exact ⟨a, b, e1.2, by rw [e2, e1.1]; simp⟩
    · rw [if_neg h, preS_mem r]
      constructor
      · rintro ⟨a, b, e1, e2⟩
        exact ⟨c :: a, b, by rw [e1]; rfl, by rw [e2]; simp⟩
      · rintro ⟨a, b, e1, e2⟩
        cases a with
        | nil => simp at e1; exact absurd e1.1 h
        | cons d a =>
          simp at e1
          exact ⟨a, b, e1.2, by rw [e2, e1.1]; simp⟩
/-- api's dirs. -/
def dirsF (l : List Fl) : List ByteArray := addOs [sb []] (l.flatMap (fun f => (preS [] (ls f.path)).map sb))
def pathsF (l : List Fl) : List Str := l.map (fun f => ls f.path)
theorem dirsF_mem {l : List Fl} {x : ByteArray} : x ∈ dirsF l ↔ DirP (pathsF l) (ls x) := by
  unfold dirsF
  rw [addOs_mem]
  unfold DirP
  refine or_congr ?_ ?_
  · simp only [List.mem_singleton]
    exact ⟨fun e => by rw [e, ls_sb], fun e => by rw [← e, sb_ls]⟩
  · rw [List.mem_flatMap]
    constructor
    · rintro ⟨f, hf, hx⟩
      obtain ⟨q, hq, rfl⟩ := List.mem_map.1 hx
      obtain ⟨a, b, e1, e2⟩ := (preS_mem _ _ _).1 hq
      exact ⟨_, List.mem_map.2 ⟨f, hf, rfl⟩, a, b, e1, by rw [ls_sb, e2]; simp⟩
    · rintro ⟨p, hp, a, b, e1, e2⟩
      obtain ⟨f, hf, rfl⟩ := List.mem_map.1 hp
      refine ⟨f, hf, List.mem_map.2 ⟨ls x, (preS_mem _ _ _).2 ⟨a, b, e1, by rw [e2]; simp⟩, sb_ls x⟩⟩
theorem dirsF_nodup (l : List Fl) : (dirsF l).Nodup := addOs_nodup (by simp)
/-- api's Itoa, from 0 up. -/
def digL : Nat → Nat → Str
  | 0, _ => []
  | f + 1, n => if n = 0 then [] else digL f (n / 10) ++ [UInt8.ofNat (48 + n % 10)]
def itoaS (n : Nat) : Str := if n = 0 then [48] else digL 20 n
def valS (s : Str) : Nat := s.foldl (fun a c => a * 10 + (c.toNat - 48)) 0
theorem valS_snoc (s : Str) (c : UInt8) : valS (s ++ [c]) = valS s * 10 + (c.toNat - 48) := by simp [valS, List.foldl_append]
theorem digL_val : ∀ f n, n < 10 ^ f → valS (digL f n) = n
  | 0, n, h => by simp at h; subst h; rfl
  | f + 1, n, h => by
    unfold digL
    by_cases h0 : n = 0
    · rw [if_pos h0, h0]; rfl
    · rw [if_neg h0, valS_snoc, digL_val f (n / 10) (by rw [Nat.pow_succ] at h; omega)]
      have : (UInt8.ofNat (48 + n % 10)).toNat = 48 + n % 10 := by
        rw [UInt8.toNat_ofNat_of_lt']
        show 48 + n % 10 < 256
        omega
      rw [this]; omega
theorem itoa_val {n : Nat} (h : n < 10 ^ 20) : valS (itoaS n) = n := by
  unfold itoaS
  by_cases h0 : n = 0
  · rw [if_pos h0, h0]; rfl
  · rw [if_neg h0]; exact digL_val 20 n h
theorem digL_nc : ∀ f n, (58 : UInt8) ∉ digL f n
  | 0, n => by simp [digL]
  | f + 1, n => by
    unfold digL
    by_cases h0 : n = 0
    · rw [if_pos h0]; simp
    · rw [if_neg h0]
      intro h
      rcases List.mem_append.1 h with h | h
      · exact digL_nc f _ h
      · simp only [List.mem_singleton] at h
        have h2 := congrArg UInt8.toNat h
        rw [UInt8.toNat_ofNat_of_lt' (by show 48 + n % 10 < 256; omega)] at h2
        have : (58 : UInt8).toNat = 58 := rfl
        omega
theorem itoa_nc (n : Nat) : (58 : UInt8) ∉ itoaS n := by
  unfold itoaS
  by_cases h0 : n = 0
  · rw [if_pos h0]; decide
  · rw [if_neg h0]; exact digL_nc _ _
theorem pre_sep {c : UInt8} {a b x y : Str} (ha : c ∉ a) (hb : c ∉ b) (h : a ++ c :: x = b ++ c :: y) : a = b ∧ x = y := by
  induction a generalizing b with
  | nil =>
    cases b with
    | nil => simpa using h
    | cons d b => simp at h; exact absurd (by rw [← h.1]; simp) hb
  | cons d a ih =>
    cases b with
    | nil => simp at h; exact absurd (by rw [h.1]; simp) ha
    | cons d' b =>
      simp at h
      obtain ⟨h1, h2⟩ := ih (by simp at ha; exact ha.2) (by simp at hb; exact hb.2) h.2
      rw [h.1, h1]; exact ⟨rfl, h2⟩
def encF (f : Fl) : Str := itoaS f.path.size ++ 58 :: (ls f.path ++ (itoaS f.mode.toNat ++ 58 :: (itoaS f.data.size ++ 58 :: ls f.data)))
/-- The key of a directory that holds these files. -/
def keyL (l : List Fl) : Str := l.flatMap encF
structure FlOk (f : Fl) : Prop where
  p : f.path.size < 10 ^ 20
  d : f.data.size < 10 ^ 20
  m0 : 0 ≤ f.mode
  m : f.mode.toNat < 10 ^ 20
theorem ls_size (s : ByteArray) : (ls s).length = s.size := by simp [ls]
theorem encF_inj {f g : Fl} {R R' : Str} (hf : FlOk f) (hg : FlOk g) (h : encF f ++ R = encF g ++ R') : f = g ∧ R = R' := by
  unfold encF at h
  have e1 : itoaS f.path.size ++ 58 :: (ls f.path ++ (itoaS f.mode.toNat ++ 58 :: (itoaS f.data.size ++ 58 :: (ls f.data ++ R)))) = itoaS g.path.size ++ 58 :: (ls g.path ++ (itoaS g.mode.toNat ++ 58 :: (itoaS g.data.size ++ 58 :: (ls g.data ++ R')))) := by
    simpa using h
  obtain ⟨a1, a2⟩ := pre_sep (itoa_nc _) (itoa_nc _) e1
  have s1 : f.path.size = g.path.size := by rw [← itoa_val hf.p, ← itoa_val hg.p, a1]
  obtain ⟨b1, b2⟩ := List.append_inj a2 (by rw [ls_size, ls_size, s1])
  obtain ⟨c1, c2⟩ := pre_sep (itoa_nc _) (itoa_nc _) b2
  have s2 : f.mode.toNat = g.mode.toNat := by rw [← itoa_val hf.m, ← itoa_val hg.m, c1]
  obtain ⟨d1, d2⟩ := pre_sep (itoa_nc _) (itoa_nc _) c2
  have s3 : f.data.size = g.data.size := by rw [← itoa_val hf.d, ← itoa_val hg.d, d1]
  obtain ⟨k1, k2⟩ := List.append_inj d2 (by rw [ls_size, ls_size, s3])
  refine ⟨?_, k2⟩
  have hm := hf.m0
  have hm' := hg.m0
  obtain ⟨fp, fd, fm⟩ := f
  obtain ⟨gp, gd, gm⟩ := g
  have e2 : fp = gp := ls_inj b1
  have e3 : fd = gd := ls_inj k1
  have e4 : fm = gm := by
    have : fm.toNat = gm.toNat := s2
    have : 0 ≤ fm := hm
    have : 0 ≤ gm := hm'
    omega
  rw [e2, e3, e4]
theorem encF_ne (f : Fl) : encF f ≠ [] := by unfold encF; simp
theorem keyL_inj : ∀ {l l' : List Fl}, (∀ f ∈ l, FlOk f) → (∀ f ∈ l', FlOk f) → keyL l = keyL l' → l = l'
  | [], [], _, _, _ => rfl
  | [], g :: l', _, _, h => by
    have : encF g ++ keyL l' = [] := h.symm
    simp [encF_ne] at this
  | f :: l, [], _, _, h => by
    have : encF f ++ keyL l = [] := h
    simp [encF_ne] at this
  | f :: l, g :: l', h1, h2, h => by
    obtain ⟨a, b⟩ := encF_inj (h1 f (by simp)) (h2 g (by simp)) (show encF f ++ keyL l = encF g ++ keyL l' from h)
    rw [a, keyL_inj (fun x hx => h1 x (by simp [hx])) (fun x hx => h2 x (by simp [hx])) b]
/-- What lies below the directory d. -/
def relF (l : List Fl) (d : Str) : List Fl := l.filterMap (fun f => if preB d (ls f.path) = true then some ⟨sb ((ls f.path).drop d.length), f.data, f.mode⟩ else none)
def keyD (l : List Fl) (d : ByteArray) : ByteArray := sb (keyL (relF l (ls d)))
def blobsW (snaps : List (List Fl)) : List ByteArray := addOs [] (snaps.flatMap (fun l => l.map Fl.data))
def treesW (snaps : List (List Fl)) : List ByteArray := addOs [] (snaps.flatMap (fun l => (dirsF l).map (keyD l)))
def weightA (snaps : List (List Fl)) : Nat := (blobsW snaps).length + (treesW snaps).length
def stayA (nodes : List Nd) (aux : List Fl) : Nat := weightA (nodes.map Nd.files ++ [aux]) + nodes.length + 1
def costA (l : List Fl) : Nat := l.length + (dirsF l).length
theorem len_sub {α : Type} : ∀ {l l' : List α}, l.Nodup → l ⊆ l' → l.length ≤ l'.length
  | [], l', _, _ => by simp
  | a :: l, l', hn, hs => by
    obtain ⟨h1, h2⟩ := List.nodup_cons.1 hn
    obtain ⟨u, v, e⟩ := List.append_of_mem (hs (by simp : a ∈ a :: l))
    have := len_sub (l := l) (l' := u ++ v) h2 (fun x hx => by
      have hx' := hs (by simp [hx] : x ∈ a :: l)
      rw [e] at hx'
      simp at hx' ⊢
      rcases hx' with h | h | h
      · exact .inl h
      · rw [h] at hx; exact absurd hx h1
      · exact .inr h)
    rw [e]
    simp at this ⊢
    omega
theorem cntTo_map {α : Type} {p : Nat → Bool} {n : Nat} {l : List α} (f : Nat → α) (hn : l.Nodup) (hi : ∀ i j, i < n → j < n → p i = true → p j = true → f i = f j → i = j) (hm : ∀ x, x ∈ l ↔ ∃ i, i < n ∧ p i = true ∧ f i = x) : cntTo p n = l.length := by
  have e : ∀ n, cntTo p n = ((List.range n).filter p).length := fun n => cntTo_list (List.nodup_range.filter p) (fun i => by rw [List.mem_filter, List.mem_range])
  rw [e, ← List.length_map (f := f)]
  refine List.Perm.length_eq ?_
  have hnd : (((List.range n).filter p).map f).Nodup := by
    unfold List.Nodup
    rw [List.pairwise_map]
    have h0 : ((List.range n).filter p).Pairwise (· ≠ ·) := List.nodup_range.filter p
    refine h0.imp_of_mem (fun {a b} ha hb hab hf => hab ?_)
    rw [List.mem_filter, List.mem_range] at ha hb
    exact hi a b ha.1 hb.1 ha.2 hb.2 hf
  refine (List.perm_ext_iff_of_nodup hnd hn).2 (fun x => ?_)
  rw [hm x, List.mem_map]
  constructor
  · rintro ⟨i, hi, hx⟩
    rw [List.mem_filter, List.mem_range] at hi
    exact ⟨i, hi.1, hi.2, hx⟩
  · rintro ⟨i, h1, h2, h3⟩
    exact ⟨i, by rw [List.mem_filter, List.mem_range]; exact ⟨h1, h2⟩, h3⟩
def isK (J : Nat → Sl) (k i : Nat) : Bool := decide (i ≠ 0) && liveS (J i) && decide ((J i).kd = k)
theorem isK_iff {J : Nat → Sl} {k i : Nat} (hi : i < 49) : isK J k i = true ↔ In i ∧ liveS (J i) = true ∧ (J i).kd = k := by
  unfold isK In
  simp only [Bool.and_eq_true, decide_eq_true_eq]
  constructor
  · rintro ⟨⟨a, b⟩, c⟩; exact ⟨⟨by omega, by omega⟩, b, c⟩
  · rintro ⟨⟨a, b⟩, c, d⟩; exact ⟨⟨by omega, c⟩, d⟩
/-- What the device says of the blobs. -/
structure BlbI (J : Nat → Sl) : Prop where
  one : ∀ i j, In i → In j → liveS (J i) = true → liveS (J j) = true → (J i).kd = (J j).kd → (J i).dat = (J j).dat → i = j
  byt : ∀ i, In i → liveS (J i) = true → (∀ x ∈ (J i).dat, x < 256) ∧ (J i).dat.length ≤ 180
theorem TS.blbI {w : World} {t s d rt : Nat} {D B : Nat → Nat} {recs : List Rec} {J : Nat → Sl} {F : Nat → Prop} (h : TS w t s d D B recs J rt F) : BlbI J := by
  obtain ⟨ob, hO, hR⟩ := h.ex
  obtain ⟨⟨tab, hd, us, nf, bk, hs, hi⟩, _, _⟩ := hO
  refine ⟨fun i j h1 h2 l1 l2 hk hdt => ?_, fun i h1 l1 => ?_⟩
  · obtain ⟨a1, a2, a3⟩ := hR i h1
    obtain ⟨b1, b2, b3⟩ := hR j h2
    exact hi.twl i j h1 h2 (by rw [hR.live h1]; exact l1) (by rw [hR.live h2]; exact l2) (by rw [a2, b2]; exact hk) (by rw [a3, b3]; exact hdt)
  · obtain ⟨b1, b2, b3⟩ := hR i h1
    have hh := hi.rows.held _ h1 (by rw [b1]; exact liveS_ne l1)
    rw [← b3]
    refine ⟨fun x hx => ?_, hh.n180⟩
    obtain ⟨j, hj, rfl⟩ := List.getElem_of_mem hx
    have := hh.by8 j hj
    unfold dF at this
    rw [List.getD_eq_getElem?_getD, List.getElem?_eq_getElem hj] at this
    exact this
theorem bsOf_inj {a b : List Nat} (ha : ∀ x ∈ a, x < 256) (hb : ∀ x ∈ b, x < 256) (h : bsOf a = bsOf b) : a = b := by
  have e : a.map UInt8.ofNat = b.map UInt8.ofNat := by
    have := congrArg ByteArray.data h
    have := congrArg Array.toList this
    simpa [bsOf] using this
  have back : ∀ l : List Nat, (∀ x ∈ l, x < 256) → (l.map UInt8.ofNat).map UInt8.toNat = l := fun l hl => by
    rw [List.map_map]
    conv => rhs; rw [← List.map_id l]
    apply List.map_congr_left
    intro x hx
    show (UInt8.ofNat x).toNat = x
    exact UInt8.toNat_ofNat_of_lt' (hl x hx)
  rw [← back a ha, ← back b hb, e]
section
variable {J : Nat → Sl} {rt : Nat} {T : Gt}
theorem relF_map (J : Nat → Sl) (l : List En) (d : Str) : relF (l.map (flJ J)) d = (relE l d).map (flJ J) := by
  unfold relF relE
  rw [List.filterMap_map, List.map_filterMap]
  congr 1
  funext e
  show (if preB d (ls (sb e.path)) = true then _ else none) = _
  rw [ls_sb]
  by_cases h : preB d e.path = true
  · rw [if_pos h, if_pos h]
    show some (Fl.mk (sb ((ls (sb e.path)).drop d.length)) _ _) = some (flJ J (strip d.length e))
    rw [ls_sb]; rfl
  · rw [if_neg h, if_neg h]; rfl
theorem paths_snap (J : Nat → Sl) (i : Nat) : pathsF (snapJ J i) = pathsE (J i).lst := by
  unfold pathsF snapJ pathsE
  rw [List.map_map]
  apply List.map_congr_left
  intro e _
  show ls (sb e.path) = e.path
  rw [ls_sb]
theorem snap_ok (hI : Inv J) (hB : BlbI J) {i : Nat} (hi : IsT J i) : ∀ f ∈ snapJ J i, FlOk f := fun f hf => by
  obtain ⟨e, he, rfl⟩ := List.mem_map.1 hf
  have hT := (hI.tr i hi.1 (liveS_ne hi.2.1) hi.2.2).fine
  have hb := hI.blobsT hi e he
  have h12 := hT.len e he
  have hm := hT.md e he
  have h180 := (hB.byt _ hb.1 hb.2.1).2
  refine ⟨?_, ?_, hm.1, ?_⟩
  · show (sb e.path).size < _
    have : (sb e.path).size = e.path.length := by rw [← ls_size, ls_sb]
    rw [this]; omega
  · show (bsOf (J e.id.toNat).dat).size < _
    have : (bsOf (J e.id.toNat).dat).size = (J e.id.toNat).dat.length := by rw [← ls_size]; simp [bsOf, ls]
    rw [this]; omega
  · show e.mode.toNat < _
    omega
theorem flJ_inj (hI : Inv J) (hB : BlbI J) {i j : Nat} (hi : IsT J i) (hj : IsT J j) {e e' : En} (he : e ∈ (J i).lst) (he' : e' ∈ (J j).lst) (h : flJ J e = flJ J e') : e = e' := by
  have b1 := hI.blobsT hi e he
  have b2 := hI.blobsT hj e' he'
  have i1 := (hI.tr i hi.1 (liveS_ne hi.2.1) hi.2.2).fine.ids e he
  have i2 := (hI.tr j hj.1 (liveS_ne hj.2.1) hj.2.2).fine.ids e' he'
  unfold flJ at h
  obtain ⟨h1, h2, h3⟩ : sb e.path = sb e'.path ∧ bsOf (J e.id.toNat).dat = bsOf (J e'.id.toNat).dat ∧ e.mode = e'.mode := by simpa using h
  have p : e.path = e'.path := by rw [← ls_sb e.path, h1, ls_sb]
  have dd := bsOf_inj (hB.byt _ b1.1 b1.2.1).1 (hB.byt _ b2.1 b2.2.1).1 h2
  have q := hB.one _ _ b1.1 b2.1 b1.2.1 b2.2.1 (by rw [b1.2.2, b2.2.2]) dd
  obtain ⟨x1, x2, x3⟩ := e
  obtain ⟨y1, y2, y3⟩ := e'
  simp only at p q h3 i1 i2
  have : x2 = y2 := by omega
  rw [p, this, h3]
theorem map_inj {α β : Type} {f : α → β} : ∀ {l l' : List α}, (∀ a ∈ l, ∀ b ∈ l', f a = f b → a = b) → l.map f = l'.map f → l = l'
  | [], [], _, _ => rfl
  | [], _ :: _, _, h => by simp at h
  | _ :: _, [], _, h => by simp at h
  | a :: l, b :: l', hi, h => by
    rw [List.map_cons, List.map_cons] at h
    injection h with h1 h2
    rw [hi a (by simp) b (by simp) h1, map_inj (l := l) (l' := l') (fun x hx y hy => hi x (by simp [hx]) y (by simp [hy])) h2]
theorem snap_inj (hI : Inv J) (hB : BlbI J) {i j : Nat} (hi : IsT J i) (hj : IsT J j) (h : snapJ J i = snapJ J j) : i = j := by
  refine hI.ul i j hi.1 hj.1 hi.2.1 hj.2.1 hi.2.2 hj.2.2 ?_
  exact map_inj (fun a ha b hb e => flJ_inj hI hB hi hj ha hb e) h
/-- The trees that the tables name. -/
def rootsT (T : Gt) : List Nat := T.os.map (fun i => (T.c i).tree) ++ [T.aux]
theorem GI.rootsT (h : GI J rt T) : ∀ i ∈ Go.Proofs.Qxb6500417aGreat.rootsT T, IsT J i := fun i hi => by
  rcases List.mem_append.1 hi with e | e
  · obtain ⟨c, hc, rfl⟩ := List.mem_map.1 e
    exact h.tab.ct c (h.os_iff.1 hc)
  · simp at e; rw [e]; exact h.ax
theorem snaps_eq (J : Nat → Sl) (T : Gt) : (absG J T).nodes.map Nd.files ++ [(absG J T).aux] = (rootsT T).map (snapJ J) := by
  unfold rootsT absG
  simp only [List.map_append, List.map_map]
  rfl
/-- A live blob or tree is named by a root. -/
theorem Tight.named (hT : Tight J rt T) (h : GI J rt T) {j : Nat} (hj : In j) (hl : liveS (J j) = true) (hk : (J j).kd = 1 ∨ (J j).kd = 2) : ∃ i ∈ rootsT T, Desc J i j := by
  rcases (hT j hj (liveS_ne hl)).2 with e | e | ⟨c, hc, e⟩ | e
  · have := ((h.tab.cu j hj).1 e.2).2; omega
  · rw [e, h.rut.rkd] at hk; omega
  · exact ⟨_, List.mem_append_left _ (List.mem_map.2 ⟨c, h.os_iff.2 hc, rfl⟩), e⟩
  · exact ⟨_, List.mem_append_right _ (by simp), e⟩
theorem Tight.blobs (hT : Tight J rt T) (h : GI J rt T) (hB : BlbI J) : cntTo (isK J 1) 49 = (blobsW ((rootsT T).map (snapJ J))).length := by
  refine cntTo_map (fun i => bsOf (J i).dat) (addOs_nodup (by simp)) (fun i j hi hj p q e => ?_) (fun x => ?_)
  · obtain ⟨a1, a2, a3⟩ := (isK_iff hi).1 p
    obtain ⟨b1, b2, b3⟩ := (isK_iff hj).1 q
    exact hB.one i j a1 b1 a2 b2 (by rw [a3, b3]) (bsOf_inj (hB.byt i a1 a2).1 (hB.byt j b1 b2).1 e)
  · unfold blobsW
    rw [addOs_mem, List.mem_flatMap]
    constructor
    · rintro (e | ⟨l, hl, hx⟩)
      · simp at e
      · obtain ⟨i, hi, rfl⟩ := List.mem_map.1 hl
        obtain ⟨f, hf, rfl⟩ := List.mem_map.1 hx
        obtain ⟨e, he, rfl⟩ := List.mem_map.1 hf
        have hb := h.inv.blobsT (h.rootsT i hi) e he
        exact ⟨e.id.toNat, by have := hb.1.2; omega, (isK_iff (by have := hb.1.2; omega)).2 hb, rfl⟩
    · rintro ⟨j, hj, p, rfl⟩
      obtain ⟨a1, a2, a3⟩ := (isK_iff hj).1 p
      obtain ⟨i, hi, hd⟩ := hT.named h a1 a2 (.inl a3)
      obtain ⟨e, he, hid⟩ := (hd.sub h.inv (h.rootsT i hi)).2 a3
      refine .inr ⟨_, List.mem_map.2 ⟨i, hi, rfl⟩, List.mem_map.2 ⟨flJ J e, List.mem_map.2 ⟨e, he, rfl⟩, ?_⟩⟩
      show bsOf (J e.id.toNat).dat = _
      rw [hid]; simp
theorem Tight.trees (hT : Tight J rt T) (h : GI J rt T) (hB : BlbI J) : cntTo (isK J 2) 49 = (treesW ((rootsT T).map (snapJ J))).length := by
  refine cntTo_map (fun i => sb (keyL (snapJ J i))) (addOs_nodup (by simp)) (fun i j hi hj p q e => ?_) (fun x => ?_)
  · have a := (isK_iff hi).1 p
    have b := (isK_iff hj).1 q
    have e1 : keyL (snapJ J i) = keyL (snapJ J j) := by
      have e0 : sb (keyL (snapJ J i)) = sb (keyL (snapJ J j)) := e
      rw [← ls_sb (keyL (snapJ J i)), e0, ls_sb]
    exact snap_inj h.inv hB a b (keyL_inj (snap_ok h.inv hB a) (snap_ok h.inv hB b) e1)
  · unfold treesW
    rw [addOs_mem, List.mem_flatMap]
    constructor
    · rintro (e | ⟨l, hl, hx⟩)
      · simp at e
      · obtain ⟨i, hi, rfl⟩ := List.mem_map.1 hl
        obtain ⟨d, hd, rfl⟩ := List.mem_map.1 hx
        have hiT := h.rootsT i hi
        rw [dirsF_mem, paths_snap] at hd
        obtain ⟨j, hj⟩ := h.inv.subEx6 hiT hd
        obtain ⟨c1, c2, _, _⟩ := hj.all h.inv hiT
        have hj49 : j < 49 := by have := c1.1.2; omega
        refine ⟨j, hj49, (isK_iff hj49).2 c1, ?_⟩
        unfold keyD
        unfold snapJ
        rw [relF_map, c2]
    · rintro ⟨j, hj, p, rfl⟩
      obtain ⟨a1, a2, a3⟩ := (isK_iff hj).1 p
      obtain ⟨i, hi, hd⟩ := hT.named h a1 a2 (.inr a3)
      have hiT := h.rootsT i hi
      obtain ⟨d, hS⟩ := (hd.sub h.inv hiT).1 a3
      obtain ⟨c1, c2, c3, _⟩ := hS.all h.inv hiT
      refine .inr ⟨_, List.mem_map.2 ⟨i, hi, rfl⟩, List.mem_map.2 ⟨sb d, ?_, ?_⟩⟩
      · rw [dirsF_mem, paths_snap, ls_sb]; exact c3
      · unfold keyD
        unfold snapJ
        rw [ls_sb, relF_map, c2]
theorem cntTo_add {p q r : Nat → Bool} : ∀ n, (∀ i, i < n → (if p i = true then 1 else 0) = (if q i = true then 1 else 0) + (if r i = true then 1 else 0)) → cntTo p n = cntTo q n + cntTo r n
  | 0, _ => rfl
  | n + 1, h => by
    have ih := cntTo_add n (fun i hi => h i (by omega))
    have := h n (by omega)
    show cntTo p n + _ = (cntTo q n + _) + (cntTo r n + _)
    rw [ih]
    omega
/-- THE COUNT: what a collection leaves. -/
theorem Tight.count (hT : Tight J rt T) (h : GI J rt T) (hB : BlbI J) : frJ J + stayA (absG J T).nodes (absG J T).aux = 48 := by
  have e1 := hT.blobs h hB
  have e2 := hT.trees h hB
  have e3 : cntTo (isK J 3) 49 = T.n := by
    rw [← h.cntU]
    refine cntTo_congr 49 (fun i hi => ?_)
    by_cases h0 : i = 0
    · subst h0; simp [isK, isU]
    · have hin : In i := ⟨by omega, by omega⟩
      rw [Bool.eq_iff_iff, isK_iff hi]
      have := h.tab.cu i hin
      unfold isU
      simp only [Bool.and_eq_true, decide_eq_true_eq]
      constructor
      · rintro ⟨_, a, b⟩; exact ⟨h0, this.2 ⟨a, b⟩⟩
      · rintro ⟨_, a⟩; exact ⟨hin, this.1 a⟩
  have e4 : cntTo (isK J 4) 49 = 1 := h.cntR
  have e5 : cntTo (fun i => decide (i ≠ 0)) 49 = 48 := by decide
  have k1 : cntTo (fun i => decide (i ≠ 0)) 49 = cntTo (isFreeS J) 49 + cntTo (fun i => decide (i ≠ 0) && liveS (J i)) 49 := by
    refine cntTo_add 49 (fun i hi => ?_)
    by_cases h0 : i = 0
    · subst h0; simp [isFreeS]
    · have hin : In i := ⟨by omega, by omega⟩
      by_cases hs : (J i).st = 0
      · have hl : liveS (J i) = false := by cases e : liveS (J i) with | false => rfl | true => exact absurd hs (liveS_ne e)
        simp [isFreeS, hs, hl, h0]
      · have hl := (hT i hin hs).1
        simp [isFreeS, hs, hl, h0]
  have k2 : cntTo (fun i => decide (i ≠ 0) && liveS (J i)) 49 = cntTo (isK J 1) 49 + cntTo (fun i => isK J 2 i || isK J 3 i || isK J 4 i) 49 := by
    refine cntTo_add 49 (fun i hi => ?_)
    unfold isK
    by_cases h0 : i = 0
    · subst h0; simp
    · cases hl : liveS (J i) with
      | false => simp
      | true =>
        have hin : In i := ⟨by omega, by omega⟩
        obtain ⟨q1, q2⟩ := h.inv.kd i hin (liveS_ne hl)
        have : (J i).kd = 1 ∨ (J i).kd = 2 ∨ (J i).kd = 3 ∨ (J i).kd = 4 := by omega
        rcases this with e | e | e | e <;> simp [e, h0]
  have k3 : cntTo (fun i => isK J 2 i || isK J 3 i || isK J 4 i) 49 = cntTo (isK J 2) 49 + cntTo (fun i => isK J 3 i || isK J 4 i) 49 := by
    refine cntTo_add 49 (fun i hi => ?_)
    unfold isK
    by_cases e : (J i).kd = 2
    · cases hb : (decide (i ≠ 0) && liveS (J i)) <;> simp [e]
    · cases hb : (decide (i ≠ 0) && liveS (J i)) <;> simp [e]
  have k4 : cntTo (fun i => isK J 3 i || isK J 4 i) 49 = cntTo (isK J 3) 49 + cntTo (isK J 4) 49 := by
    refine cntTo_add 49 (fun i hi => ?_)
    unfold isK
    by_cases e : (J i).kd = 3
    · cases hb : (decide (i ≠ 0) && liveS (J i)) <;> simp [e]
    · cases hb : (decide (i ≠ 0) && liveS (J i)) <;> simp [e]
  unfold stayA weightA
  rw [snaps_eq, abs_len]
  unfold frJ
  omega
/-- The directories of a listing, one by one. -/
def pfx : Nat → List En → List Str
  | 0, _ => [[]]
  | n + 1, l => [] :: (tp l).flatMap (fun t => match t with
    | .f _ => []
    | .d a sub => (pfx n sub).map (fun d => a ++ 47 :: d))
theorem pfx_len : ∀ (n : Nat) (l : List En), (pfx n l).length = nd n l
  | 0, l => rfl
  | n + 1, l => by
    unfold pfx nd
    rw [List.length_cons]
    have : ∀ ts : List Tp, (ts.flatMap (fun t => match t with | .f _ => [] | .d a sub => (pfx n sub).map (fun d => a ++ 47 :: d))).length = ndL (nd n) ts := by
      intro ts
      induction ts with
      | nil => rfl
      | cons t ts ih =>
        rw [List.flatMap_cons, List.length_append, ih]
        cases t with
        | f e => simp [ndL]
        | d a sub => simp [ndL, pfx_len n sub]
    rw [this]; omega
theorem pfx_dir : ∀ (n : Nat) (l : List En), ∀ d ∈ pfx n l, DirP (pathsE l) d
  | 0, l, d, h => by simp [pfx] at h; exact .inl h
  | n + 1, l, d, h => by
    unfold pfx at h
    rcases List.mem_cons.1 h with e | e
    · exact .inl e
    · obtain ⟨t, ht, hd⟩ := List.mem_flatMap.1 e
      cases t with
      | f e => simp at hd
      | d a sub =>
        obtain ⟨d', hd', rfl⟩ := List.mem_map.1 hd
        exact dir_under ht (pfx_dir n sub d' hd')
theorem pfx_nodup : ∀ (n : Nat) (l : List En), Fine l → (pfx n l).Nodup
  | 0, l, _ => by simp [pfx]
  | n + 1, l, hf => by
    unfold pfx
    have hcan := tp_canon l
    have hpw := keys_pw hcan (by rw [tp_flat]; exact hf.srt)
    have hC := fun t ht => can_mem hcan t ht
    have hS := fun a sub (hm : Tp.d a sub ∈ tp l) => (hf.sub hm).1
    rw [List.nodup_cons]
    constructor
    · intro h
      obtain ⟨t, ht, hd⟩ := List.mem_flatMap.1 h
      cases t with
      | f e => simp at hd
      | d a sub =>
        obtain ⟨d', _, e⟩ := List.mem_map.1 hd
        simp at e
    · revert hpw hC hS
      generalize tp l = ts
      induction ts with
      | nil => intro _ _ _; simp
      | cons t ts ih =>
        intro hpw hC hS
        rw [List.flatMap_cons, List.nodup_append]
        refine ⟨?_, ih (List.pairwise_cons.1 hpw).2 (fun x hx => hC x (by simp [hx])) (fun a sub hm => hS a sub (by simp [hm])), ?_⟩
        · cases t with
          | f e => simp
          | d a sub =>
            have := pfx_nodup n sub (hS a sub (by simp))
            unfold List.Nodup at this ⊢
            rw [List.pairwise_map]
            exact this.imp (fun {x y} hxy e => hxy (by simpa using e))
        · intro x hx y hy e
          cases t with
          | f e => simp at hx
          | d a sub =>
            obtain ⟨d1, _, rfl⟩ := List.mem_map.1 hx
            obtain ⟨t2, ht2, hd2⟩ := List.mem_flatMap.1 hy
            cases t2 with
            | f e => simp at hd2
            | d b sub2 =>
              obtain ⟨d2, _, rfl⟩ := List.mem_map.1 hd2
              have hab := (pre_name (show CanT (.d a sub) from hC _ (by simp)).1 (show CanT (.d b sub2) from hC _ (by simp [ht2])).1 e).1
              have := (List.pairwise_cons.1 hpw).1 _ ht2
              have e2 : bl (a ++ [47]) (b ++ [47]) = true := this
              rw [hab, bl_irr] at e2; cases e2
def mE (l : List Fl) : List En := l.map (fun f => ⟨ls f.path, 1, f.mode⟩)
theorem chk_mE : ∀ (l : List Fl) (prev : List ByteArray), chkF l prev = 0 → chkE (mE l) prev = 0
  | [], prev, _ => rfl
  | f :: l, prev, hc => by
    unfold chkF at hc
    show chkE (⟨ls f.path, 1, f.mode⟩ :: mE l) prev = 0
    unfold chkE
    simp only
    rw [sb_ls]
    by_cases h0 : rowErr f.path f.mode f.data.size prev = 0
    · rw [if_pos h0] at hc
      rw [if_pos (rowErr_zero h0)]
      exact chk_mE l _ hc
    · rw [if_neg h0] at hc; exact absurd hc h0
theorem cost_le {l : List Fl} (hc : checkF l = 0) : costF l ≤ costA l := by
  have hl8 : ¬ 8 < l.length := fun h => by unfold checkF at hc; rw [if_pos h] at hc; cases hc
  have hfine : Fine (mE l) := by
    refine checkE_fine ?_ ?_
    · unfold checkE
      rw [if_neg (by unfold mE; rw [List.length_map]; exact hl8)]
      refine chk_mE l [] ?_
      unfold checkF at hc
      rwa [if_neg hl8] at hc
    · intro e he
      obtain ⟨f, _, rfl⟩ := List.mem_map.1 he
      exact ⟨by show (1 : Int) ≤ 1; omega, by show (1 : Int) ≤ 48; omega⟩
  have hp : (mE l).map (fun e => e.path) = l.map (fun f => ls f.path) := by
    unfold mE; rw [List.map_map]; rfl
  unfold costF costA
  rw [← nd_paths hp, ← pfx_len 6]
  have hsub : ((pfx 6 (mE l)).map sb) ⊆ dirsF l := by
    intro x hx
    obtain ⟨d, hd, rfl⟩ := List.mem_map.1 hx
    rw [dirsF_mem, ls_sb]
    have := pfx_dir 6 _ d hd
    have e : pathsE (mE l) = pathsF l := hp
    rw [e] at this
    exact this
  have hnd : ((pfx 6 (mE l)).map sb).Nodup := by
    have := pfx_nodup 6 _ hfine
    unfold List.Nodup at this ⊢
    rw [List.pairwise_map]
    exact this.imp (fun {x y} hxy e => hxy (by rw [← ls_sb x, e, ls_sb]))
  have := len_sub hnd hsub
  rw [List.length_map] at this
  omega
end
end Go.Proofs.Qxb6500417aGreat
