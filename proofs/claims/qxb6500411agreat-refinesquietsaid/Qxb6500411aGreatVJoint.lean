/-
  OWN WORK. THE PAGER LAW's REFINEMENT: pager and model together; SameBegin .. SamePut.
-/
import Derived.Test.Qxb6500411aGreatVOuter
namespace Go.Proofs.Qxb6500411aGreat
open Go.RowKit
set_option linter.unusedSimpArgs false
set_option linter.unusedVariables false

theorem withB_tail (m : ByteArray) (i v : Nat) (hm : m.size = 128) (hi : i < 9) : (withB m i v).extract 9 128 = m.extract 9 128 := by
  apply ByteArray.ext
  rw [ByteArray.data_extract, ByteArray.data_extract]
  apply Array.ext'
  rw [Array.toList_extract, Array.toList_extract, withB_list m i v hm]
  have hl : m.data.toList.length = 128 := by simpa using hm
  have key : ∀ t : List UInt8, t.extract 9 128 = (t.drop 9).take 119 := fun t => rfl
  rw [key, key]
  congr 1
  rw [List.drop_append, List.drop_of_length_le (by rw [List.length_take]; omega), List.nil_append, List.length_take, Nat.min_eq_left (by omega), show 9 - i = (8 - i) + 1 by omega, List.drop_succ_cons, List.drop_drop, show i + 1 + (8 - i) = 9 by omega]

theorem MapOk.set {m : ByteArray} (h : MapOk m) {n : Nat} (h1 : 1 ≤ n) (hn : n < 72) : MapOk (setB m n) := by
  obtain ⟨a, b, c⟩ := h
  refine ⟨setB_size m n a hn, ?_, ?_⟩
  · rw [bitOf_setB m n 0 a hn (by omega), if_neg (by omega)]; exact b
  · unfold setB; rw [withB_tail _ _ _ a (by omega)]; exact c
theorem MapOk.clr {m : ByteArray} (h : MapOk m) {n : Nat} (h1 : 1 ≤ n) (hn : n < 72) : MapOk (clrB m n) := by
  obtain ⟨a, b, c⟩ := h
  refine ⟨clrB_size m n a hn, ?_, ?_⟩
  · rw [bitOf_clrB m n 0 a hn (by omega), if_neg (by omega)]; exact b
  · unfold clrB; rw [withB_tail _ _ _ a (by omega)]; exact c
theorem MapOk.zero : MapOk zeroB := ⟨zeroB_size, by decide +kernel, rfl⟩

structure JR (w : World) (p l d q : Nat) (blk base : List ByteArray) (recs : List (Nat × ByteArray)) (op : Bool) (com view : List ByteArray) (uc : List Bool) (pc : List ByteArray) (um : List Bool) (pm : List ByteArray) (hist : Option (List Bool × List ByteArray)) (F G H : Nat → Prop) : Prop where
  pg : PG w p l d blk base recs op com view F G
  md : ∃ ub pb, MPAt w q uc pc um pm ub pb hist op H ∧ ((hist = none ∧ ub = um ∧ pb = pm) ∨ hist = some (um, pm))
  see : SeesAll view uc pc
  sem : SeesAll (com.take 72) um pm
  map : MapOk (view.getD 0 emptyB)
  mac : MapOk ((com.take 72).getD 0 emptyB)
  HF : ∀ x, H x → ¬ (F x ∨ G x ∨ x = p)

def RP (w : World) (p l d q : Nat) (base : List ByteArray) (F G H : Nat → Prop) (blk : List ByteArray) (recs : List (Nat × ByteArray)) (op : Bool) (com : List ByteArray) (kind : Int) (w' : World) : Prop :=
  ∃ blk' recs' op' com' view' uc' pc' um' pm' hist' F' H', JR w' p l d q blk' base recs' op' com' view' uc' pc' um' pm' hist' F' G H' ∧ (∀ x, F' x ∨ H' x → F x ∨ H x ∨ w.heap.size ≤ x) ∧ Only (fun x => F x ∨ G x ∨ H x ∨ x = p) w w' ∧
    ((blk' = blk ∧ recs' = recs ∧ com' = com ∧ CutInv blk [] com com) ∨ (kind = 2 ∧ op = true ∧ ∃ rs, recs' = recs ++ rs ∧ blk' = replay blk rs ∧ CutInv blk rs com com'))

section
variable {w : World} {p l d q : Nat} {blk base : List ByteArray} {recs : List (Nat × ByteArray)} {op : Bool} {com view : List ByteArray} {uc : List Bool} {pc : List ByteArray} {um : List Bool} {pm : List ByteArray} {hist : Option (List Bool × List ByteArray)} {F G H : Nat → Prop}

theorem JR.keep {w' : World} (h : JR w p l d q blk base recs op com view uc pc um pm hist F G H) (ho : Only (fun _ => False) w w') : JR w' p l d q blk base recs op com view uc pc um pm hist F G H := by
  obtain ⟨ub, pb, hm, hh⟩ := h.md
  exact ⟨h.pg.quiet ho, ⟨ub, pb, hm.quiet ho, hh⟩, h.see, h.sem, h.map, h.mac, h.HF⟩
theorem JR.off (h : JR w p l d q blk base recs op com view uc pc um pm hist F G H) : ∀ k, H k → ¬ (G k ∨ k = p) := fun k hk e => h.HF k hk (.inr e)
theorem JR.inH (h : JR w p l d q blk base recs op com view uc pc um pm hist F G H) : ∀ k, H k → k < w.heap.size := by
  obtain ⟨ub, pb, hm, hh⟩ := h.md
  exact hm.inn
/-- The pager has turned (its own blocks and the log's), what it shows stands, the model stands. -/
theorem JR.pager {w' : World} (h : JR w p l d q blk base recs op com view uc pc um pm hist F G H) (ho : Only (fun x => G x ∨ x = p) w w') (hp : PG w' p l d blk base recs op com view F G) : JR w' p l d q blk base recs op com view uc pc um pm hist F G H := by
  obtain ⟨ub, pb, hm, hh⟩ := h.md
  exact ⟨hp, ⟨ub, pb, hm.keep ho h.off, hh⟩, h.see, h.sem, h.map, h.mac, h.HF⟩

theorem JR.post {kind : Int} {w' : World} {op' : Bool} {view' : List ByteArray} {uc' : List Bool} {pc' : List ByteArray} {H' : Nat → Prop} (j0 : JR w p l d q blk base recs op com view uc pc um pm hist F G H) (h : JR w' p l d q blk base recs op' com view' uc' pc' um pm hist F G H')
    (hH : ∀ x, H' x → H x ∨ w.heap.size ≤ x) (ho : Only (fun x => F x ∨ G x ∨ H x ∨ x = p) w w') : RP w p l d q base F G H blk recs op com kind w' :=
  ⟨blk, recs, op', com, view', uc', pc', um, pm, hist, F, H', h, fun x hx => by rcases hx with h | h; exact .inl h; rcases hH x h with h | h; exact .inr (.inl h); exact .inr (.inr h), ho, .inl ⟨rfl, rfl, rfl, j0.pg.still⟩⟩
theorem JR.same {kind : Int} {w' : World} (j0 : JR w p l d q blk base recs op com view uc pc um pm hist F G H) (ho : Only (fun _ => False) w w') : RP w p l d q base F G H blk recs op com kind w' := j0.post (j0.keep ho) (fun x hx => .inl hx) (ho.mono (fun _ _ h => h.elim))
theorem JR.looked {kind : Int} {w' : World} (j0 : JR w p l d q blk base recs op com view uc pc um pm hist F G H) (ho : Only (fun x => G x ∨ x = p) w w') (hp : PG w' p l d blk base recs op com view F G) : RP w p l d q base F G H blk recs op com kind w' :=
  j0.post (j0.pager ho hp) (fun x hx => .inl hx) (ho.mono (fun _ _ h => by rcases h with h | h; exact .inr (.inl h); exact .inr (.inr (.inr h))))
theorem RP.pre {kind : Int} {w1 w' : World} (ho : Only (fun _ => False) w w1) (h : RP w1 p l d q base F G H blk recs op com kind w') : RP w p l d q base F G H blk recs op com kind w' := by
  obtain ⟨blk', recs', op', com', view', uc', pc', um', pm', hist', F', H', j, h1, h2, h3⟩ := h
  have s := ho.size
  refine ⟨blk', recs', op', com', view', uc', pc', um', pm', hist', F', H', j, fun x hx => ?_, (ho.mono (fun _ _ h => h.elim)).trans h2 (fun _ _ h => h), h3⟩
  rcases h1 x hx with h | h | h
  · exact .inl h
  · exact .inr (.inl h)
  · exact .inr (.inr (by omega))

/-- Pager then model: the sets stay apart. -/
theorem JR.apart (h : JR w p l d q blk base recs op com view uc pc um pm hist F G H) {w1 : World} (ho : Only (fun x => F x ∨ G x ∨ x = p) w w1) {uc' um' ub' : List Bool} {pc' pm' pb' : List ByteArray} {hist' : Option (List Bool × List ByteArray)} {op' : Bool} (hm : MPAt w q uc' pc' um' pm' ub' pb' hist' op' H) : MPAt w1 q uc' pc' um' pm' ub' pb' hist' op' H := hm.keep ho h.HF

theorem PGf.keep {n : Nat} {S : Nat → Prop} {w' : World} (h : PGf w p l d blk base recs op com view F G n) (ho : Only S w w') (hF : ∀ k, F k → ¬ S k) (hG : ∀ k, G k → ¬ S k) (hp : ¬ S p) : PGf w' p l d blk base recs op com view F G n := by
  obtain ⟨⟨fr, ord, cur, h1, h2, h3, h4⟩, a, b⟩ := h
  exact ⟨⟨fr, ord, cur, h1.keep ho hp, h2.keep ho hF hG, h3, h4⟩, a, b⟩

theorem JR.offF (h : JR w p l d q blk base recs op com view uc pc um pm hist F G H) : (∀ k, F k → ¬ H k) ∧ (∀ k, G k → ¬ H k) ∧ ¬ H p := ⟨fun k hk hh => h.HF k hh (.inl hk), fun k hk hh => h.HF k hh (.inr (.inl hk)), fun hh => h.HF p hh (.inr (.inr rfl))⟩

set_option maxRecDepth 100000 in
theorem rsame_begin (kind : Int) (j : JR w p l d q blk base recs op com view uc pc um pm hist F G H) :
    Calls Tryz.prog 38 #[.pointer (some ⟨p, 0, none⟩), .pointer (some ⟨q, 0, none⟩)] w fun e w' => e = .returned (.bool true) ∧ RP w p l d q base F G H blk recs op com kind w' := by
  have J := hide j
  obtain ⟨ub, pb, hm, hh⟩ := j.md
  obtain ⟨oF, oG, op_⟩ := j.offF
  cases op with
  | true =>
    have C1 := hide (pbegin_open j.pg)
    have C2 := hide (nbegin_open hm)
    go_enter Tryz.func38, Tryz.ntmps38
    go_wp2_with fail
    refine (unhide C1).mono ?_
    rintro e w1 ⟨rfl, rfl⟩
    go_wp2_with fail
    refine (unhide C2).mono ?_
    rintro e w1 ⟨rfl, rfl⟩
    go_wp2_with fail
    go_ret
    exact ⟨rfl, (unhide J).same (Only.refl _ _)⟩
  | false =>
    have C1 := hide (pbegin_shut j.pg)
    go_enter Tryz.func38, Tryz.ntmps38
    go_wp2_with fail
    refine (unhide C1).mono ?_
    rintro e w1 ⟨rfl, h1, ho1⟩
    have C2 := hide (nbegin_shut (hm.keep ho1 j.off))
    go_wp2_with fail
    refine (unhide C2).mono ?_
    rintro e w2 ⟨rfl, h2, ho2⟩
    go_wp2_with fail
    go_ret
    refine ⟨rfl, (unhide J).post (op' := true) (H' := H) ⟨h1.keep ho2 oF oG op_, ⟨ub, pb, h2, hh⟩, j.see, j.sem, j.map, j.mac, j.HF⟩ (fun x hx => .inl hx) ?_⟩
    exact (ho1.mono (fun _ _ h => by rcases h with h | h; exact .inr (.inl h); exact .inr (.inr (.inr h)))).trans ho2 (fun _ _ h => .inr (.inr (.inl h)))

theorem off_ext {w1 w2 : World} (j : JR w p l d q blk base recs op com view uc pc um pm hist F G H) {F1 : Nat → Prop} (s : w.heap.size ≤ w1.heap.size) (hp : PG w1 p l d blk base recs op com view F1 G → True) (hF1 : ∀ x, F1 x → x < w1.heap.size ∧ (F x ∨ w.heap.size ≤ x)) (hpl : p < w1.heap.size) (hG : ∀ x, G x → x < w1.heap.size) :
    ∀ x, Ext H w1 w2 x → ¬ (F1 x ∨ G x ∨ x = p) := by
  have hi := j.inH
  rintro x (hx | hx) (e | e | e)
  · rcases (hF1 x e).2 with e | e
    · exact j.HF x hx (.inl e)
    · have := hi x hx; omega
  · exact j.HF x hx (.inr (.inl e))
  · exact j.HF x hx (.inr (.inr e))
  · have := (hF1 x e).1; omega
  · have := hG x e; omega
  · omega

set_option maxRecDepth 100000 in
theorem rsame_abort (kind : Int) (j : JR w p l d q blk base recs op com view uc pc um pm hist F G H) :
    Calls Tryz.prog 40 #[.pointer (some ⟨p, 0, none⟩), .pointer (some ⟨q, 0, none⟩)] w fun e w' => e = .returned (.bool true) ∧ RP w p l d q base F G H blk recs op com kind w' := by
  have J := hide j
  obtain ⟨ub, pb, hm, hh⟩ := j.md
  obtain ⟨oF, oG, op_⟩ := j.offF
  cases op with
  | false =>
    have C1 := hide (pabort_shut j.pg)
    have C2 := hide (nabort_shut hm)
    go_enter Tryz.func40, Tryz.ntmps40
    go_wp2_with fail
    refine (unhide C1).mono ?_
    rintro e w1 ⟨rfl, rfl⟩
    go_wp2_with fail
    refine (unhide C2).mono ?_
    rintro e w1 ⟨rfl, rfl⟩
    go_wp2_with fail
    go_ret
    exact ⟨rfl, (unhide J).same (Only.refl _ _)⟩
  | true =>
    have C1 := hide (pabort_open j.pg)
    go_enter Tryz.func40, Tryz.ntmps40
    go_wp2_with fail
    refine (unhide C1).mono ?_
    rintro e w1 ⟨rfl, h1, ho1⟩
    have s1 := ho1.size
    have C2 := hide (nabort_open (hm.keep ho1 j.off))
    go_wp2_with fail
    refine (unhide C2).mono ?_
    rintro e w2 ⟨rfl, h2, ho2⟩
    go_wp2_with fail
    go_ret
    have hoff := off_ext (w1 := w1) (w2 := w2) j (F1 := F) s1 (fun _ => trivial) (fun x hx => ⟨h1.inF x hx, .inl hx⟩) h1.plt h1.inG
    refine ⟨rfl, (unhide J).post (op' := false) (view' := com.take 72) (uc' := um) (pc' := pm) (H' := Ext H w1 w2) ⟨h1.keep ho2 oF oG op_, ⟨ub, pb, h2, hh⟩, j.sem, j.sem, j.mac, j.mac, hoff⟩ ?_ ?_⟩
    · rintro x (hx | hx)
      · exact .inl hx
      · exact .inr (by omega)
    · exact (ho1.mono (fun _ _ h => by rcases h with h | h; exact .inr (.inl h); exact .inr (.inr (.inr h)))).trans ho2 (fun _ _ h => .inr (.inr (.inl h)))

set_option maxRecDepth 100000 in
theorem rsame_commit (j : JR w p l d q blk base recs op com view uc pc um pm none F G H) (hrc : recs.length ≤ 100) :
    Calls Tryz.prog 39 #[.pointer (some ⟨p, 0, none⟩), .pointer (some ⟨q, 0, none⟩)] w fun e w' => e = .returned (.bool true) ∧ RP w p l d q base F G H blk recs op com 2 w' := by
  have J := hide j
  obtain ⟨ub, pb, hm, hh⟩ := j.md
  obtain ⟨oF, oG, op_⟩ := j.offF
  cases op with
  | false =>
    have C1 := hide (pcommit_shut j.pg)
    have C2 := hide (ncommit_shut hm)
    go_enter Tryz.func39, Tryz.ntmps39
    go_wp2_with fail
    refine (unhide C1).mono ?_
    rintro e w1 ⟨rfl, rfl⟩
    go_wp2_with fail
    refine (unhide C2).mono ?_
    rintro e w1 ⟨rfl, rfl⟩
    go_wp2_with fail
    go_ret
    exact ⟨rfl, (unhide J).same (Only.refl _ _)⟩
  | true =>
    have C1 := hide (pcommit_open j.pg hrc)
    go_enter Tryz.func39, Tryz.ntmps39
    go_wp2_with fail
    refine (unhide C1).mono ?_
    rintro e w1 ⟨rfl, rs, com', h1, hcu, ho1⟩
    have s1 := ho1.size
    have C2 := hide (ncommit_open (hm.keep ho1 j.HF))
    have hF1 : ∀ x, Ext F w w1 x → x < w1.heap.size ∧ (F x ∨ w.heap.size ≤ x) := by
      intro x hx
      refine ⟨h1.inF x hx, ?_⟩
      rcases hx with hx | hx
      · exact .inl hx
      · exact .inr hx.1
    generalize Ext F w w1 = F1 at h1 hF1
    go_wp2_with fail
    refine (unhide C2).mono ?_
    rintro e w2 ⟨rfl, h2, ho2⟩
    go_wp2_with fail
    go_ret
    have hsh := h1.shut
    have hoff := off_ext (w1 := w1) (w2 := w2) j (F1 := F1) s1 (fun _ => trivial) hF1 h1.plt h1.inG
    have oF1 : ∀ k, F1 k → ¬ H k := fun k hk hh => by
      rcases (hF1 k hk).2 with e | e
      · exact oF k e hh
      · have := j.inH k hh; omega
    refine ⟨rfl, replay blk rs, recs ++ rs, false, com', view, uc, pc, uc, pc, some (uc, pc), F1, Ext H w1 w2, ⟨h1.keep ho2 oF1 oG op_, ⟨ub, pb, h2, .inr rfl⟩, j.see, by rw [← hsh]; exact j.see, j.map, by rw [← hsh]; exact j.map, hoff⟩, ?_, ?_, .inr ⟨rfl, rfl, rs, rfl, rfl, hcu⟩⟩
    · rintro x (hx | hx | hx)
      · rcases (hF1 x hx).2 with e | e
        · exact .inl e
        · exact .inr (.inr e)
      · exact .inr (.inl hx)
      · exact .inr (.inr (by omega))
    · exact (ho1.mono (fun _ _ h => by rcases h with h | h | h; exact .inl h; exact .inr (.inl h); exact .inr (.inr (.inr h)))).trans ho2 (fun _ _ h => .inr (.inr (.inl h)))
end
end Go.Proofs.Qxb6500411aGreat
