/-
  OWN WORK. THE LAW's Play: an op on both sides.
-/
import Derived.Test.Qxb6500415aRLook
import Derived.Test.Qxb6500415aWalCut
import Derived.Test.Qxb6500415aLaw3
namespace Go.Proofs.Qxb6500415a
open Go.RowKit
set_option linter.unusedSimpArgs false
set_option linter.unusedVariables false

/-- The three objects, apart from one another, tied by the invariant. -/
structure JM (w : World) (l d m : Nat) (blk base : List ByteArray) (recs : List (Nat × ByteArray)) (op : Bool) (es : List (Nat × ByteArray)) (com cur : List ByteArray) (dirty : List Bool) (mbase : List ByteArray) (hist : Option (List ByteArray)) (F G H : Nat → Prop) : Prop where
  dk : DiskAt w d blk base recs F
  lg : LogAt w l d op es G
  md : MLogAt w m com cur dirty es.length op mbase hist H
  inv : Inv blk op es com cur dirty
  FG : ∀ k, F k → ¬ G k
  FH : ∀ k, F k → ¬ H k
  GH : ∀ k, G k → ¬ H k

def RPost (w : World) (l d m : Nat) (base mbase : List ByteArray) (F G H : Nat → Prop) (blk : List ByteArray) (recs : List (Nat × ByteArray)) (op : Bool) (es : List (Nat × ByteArray)) (com cur : List ByteArray) (kind : Int) (w' : World) : Prop :=
  ∃ blk' recs' op' es' com' cur' dirty' hist' F' H', JM w' l d m blk' base recs' op' es' com' cur' dirty' mbase hist' F' G H' ∧ (∀ k, F' k → F k ∨ w.heap.size ≤ k) ∧ (∀ k, H' k → H k ∨ w.heap.size ≤ k) ∧ Only (fun k => F k ∨ G k ∨ H k) w w' ∧
    ((blk' = blk ∧ recs' = recs ∧ com' = com ∧ hist' = none ∧ (kind = 4 → op = false)) ∨ (kind = 4 ∧ op = true ∧ recs' = recs ++ commitAll blk es ∧ blk' = replay blk (commitAll blk es) ∧ com' = cur ∧ hist' = some cur))

section
variable {w : World} {l d m : Nat} {blk base : List ByteArray} {recs : List (Nat × ByteArray)} {op : Bool} {es : List (Nat × ByteArray)} {com cur : List ByteArray} {dirty : List Bool} {mbase : List ByteArray} {hist : Option (List ByteArray)} {F G H : Nat → Prop} {kind : Int}

theorem JM.keep {w' : World} (h : JM w l d m blk base recs op es com cur dirty mbase hist F G H) (ho : Only (fun _ => False) w w') : JM w' l d m blk base recs op es com cur dirty mbase hist F G H :=
  ⟨h.dk.keep ho (fun _ _ h => h), h.lg.keep ho (fun _ _ h => h), h.md.keep ho (fun _ _ h => h), h.inv, h.FG, h.FH, h.GH⟩

theorem RPost.pre {w1 w' : World} (ho : Only (fun _ => False) w w1) (h : RPost w1 l d m base mbase F G H blk recs op es com cur kind w') : RPost w l d m base mbase F G H blk recs op es com cur kind w' := by
  obtain ⟨blk', recs', op', es', com', cur', dirty', hist', F', H', j, h1, h2, h3, h4⟩ := h
  have s := ho.size
  exact ⟨blk', recs', op', es', com', cur', dirty', hist', F', H', j, fun k hk => (h1 k hk).imp id (fun h => by omega), fun k hk => (h2 k hk).imp id (fun h => by omega), (ho.mono (fun _ _ h => h.elim)).trans h3 (fun _ _ h => h), h4⟩

theorem JM.same {w' : World} (j0 : JM w l d m blk base recs op es com cur dirty mbase none F G H) (ho : Only (fun _ => False) w w') (hk : kind = 4 → op = false) : RPost w l d m base mbase F G H blk recs op es com cur kind w' :=
  ⟨blk, recs, op, es, com, cur, dirty, none, F, H, j0.keep ho, fun _ h => .inl h, fun _ h => .inl h, ho.mono (fun _ _ h => h.elim), .inl ⟨rfl, rfl, rfl, rfl, hk⟩⟩

theorem JM.two (j0 : JM w l d m blk base recs op es com cur dirty mbase none F G H) {w1 w2 : World} {op' : Bool} {es' : List (Nat × ByteArray)} {cur' : List ByteArray} {dirty' : List Bool} {n' : Nat} {H' : Nat → Prop} (hl1 : LogAt w1 l d op' es' G) (o1 : Only G w w1)
    (hm2 : MLogAt w2 m com cur' dirty' n' op' mbase none H') (hn : n' = es'.length) (o2 : Only H w1 w2) (hH : ∀ k, H' k → H k ∨ w1.heap.size ≤ k) (hinv : Inv blk op' es' com cur' dirty') (hk : kind = 4 → op = false) : RPost w l d m base mbase F G H blk recs op es com cur kind w2 := by
  subst hn
  have s1 := o1.size
  have hFi := j0.dk.inn
  have hGi := j0.lg.inn
  refine ⟨blk, recs, op', es', com, cur', dirty', none, F, H', ⟨(j0.dk.keep o1 j0.FG).keep o2 j0.FH, hl1.keep o2 j0.GH, hm2, hinv, j0.FG, ?_, ?_⟩, fun _ h => .inl h, fun k hk => (hH k hk).imp id (fun h => by omega), (o1.mono (fun _ _ h => .inr (.inl h))).trans o2 (fun _ _ h => .inr (.inr h)), .inl ⟨rfl, rfl, rfl, rfl, hk⟩⟩
  · intro k hk hh
    rcases hH k hh with h | h
    · exact j0.FH k hk h
    · have := hFi k hk; omega
  · intro k hk hh
    rcases hH k hh with h | h
    · exact j0.GH k hk h
    · have := hGi k hk; omega

theorem ext_or {F : Nat → Prop} {w w' : World} : ∀ k, Ext F w w' k → F k ∨ w.heap.size ≤ k := fun k hk => by
  rcases hk with hk | hk
  · exact .inl hk
  · exact .inr hk.1

theorem sameBegin_any (j0 : JM w l d m blk base recs op es com cur dirty mbase none F G H) (hk : kind = 4 → op = false) :
    Calls Try.prog 59 #[.pointer (some ⟨l, 0, none⟩), .pointer (some ⟨m, 0, none⟩)] w fun e w' => e = .returned (.bool true) ∧ RPost w l d m base mbase F G H blk recs op es com cur kind w' := by
  cases op with
  | true =>
    have C1 := hide (wbegin_open l d es G w j0.lg)
    have C2 := hide (mbegin_open j0.md)
    go_enter Try.func59, Try.ntmps59
    go_wp2_with fail
    refine (unhide C1).mono ?_
    rintro e w1 ⟨rfl, rfl⟩
    go_wp2_with fail
    refine (unhide C2).mono ?_
    rintro e w1 ⟨rfl, rfl⟩
    go_wp2_with fail
    go_ret
    exact ⟨rfl, j0.same (Only.refl _ _) hk⟩
  | false =>
    have C1 := hide (wbegin_shut l d es G w j0.lg)
    go_enter Try.func59, Try.ntmps59
    go_wp2_with fail
    refine (unhide C1).mono ?_
    rintro e w1 ⟨rfl, hl1, ho1⟩
    have m1 := j0.md.keep ho1 (fun k hk hg => j0.GH k hg hk)
    have C2 := hide (mbegin_shut m1)
    go_wp2_with fail
    refine (unhide C2).mono ?_
    rintro e w2 ⟨rfl, hm2, ho2⟩
    go_wp2_with fail
    go_ret
    exact ⟨rfl, j0.two hl1 ho1 hm2 rfl ho2 (fun _ h => .inl h) j0.inv.begin_ (fun _ => rfl)⟩

theorem sameAbort_any (j0 : JM w l d m blk base recs op es com cur dirty mbase none F G H) (hk : kind = 4 → op = false) :
    Calls Try.prog 62 #[.pointer (some ⟨l, 0, none⟩), .pointer (some ⟨m, 0, none⟩)] w fun e w' => e = .returned (.bool true) ∧ RPost w l d m base mbase F G H blk recs op es com cur kind w' := by
  cases op with
  | false =>
    have C1 := hide (wabort_shut l d es G w j0.lg)
    have C2 := hide (mabort_shut j0.md)
    go_enter Try.func62, Try.ntmps62
    go_wp2_with fail
    refine (unhide C1).mono ?_
    rintro e w1 ⟨rfl, rfl⟩
    go_wp2_with fail
    refine (unhide C2).mono ?_
    rintro e w1 ⟨rfl, rfl⟩
    go_wp2_with fail
    go_ret
    exact ⟨rfl, j0.same (Only.refl _ _) (fun _ => rfl)⟩
  | true =>
    have C1 := hide (wabort_open l d es G w j0.lg)
    go_enter Try.func62, Try.ntmps62
    go_wp2_with fail
    refine (unhide C1).mono ?_
    rintro e w1 ⟨rfl, hl1, ho1⟩
    have m1 := j0.md.keep ho1 (fun k hk hg => j0.GH k hg hk)
    have C2 := hide (mabort_open m1)
    go_wp2_with fail
    refine (unhide C2).mono ?_
    rintro e w2 ⟨rfl, hm2, ho2⟩
    go_wp2_with fail
    go_ret
    exact ⟨rfl, j0.two hl1 ho1 hm2 rfl ho2 ext_or j0.inv.abort_ hk⟩

theorem sameCommit_any (j0 : JM w l d m blk base recs op es com cur dirty mbase none F G H) (hrc : recs.length ≤ 100) :
    Calls Try.prog 61 #[.pointer (some ⟨l, 0, none⟩), .pointer (some ⟨m, 0, none⟩)] w fun e w' => e = .returned (.bool true) ∧ RPost w l d m base mbase F G H blk recs op es com cur 4 w' := by
  cases op with
  | false =>
    have C1 := hide (wcommit_shut l d es G w j0.lg)
    have C2 := hide (mcommit_shut j0.md)
    go_enter Try.func61, Try.ntmps61
    go_wp2_with fail
    refine (unhide C1).mono ?_
    rintro e w1 ⟨rfl, rfl⟩
    go_wp2_with fail
    refine (unhide C2).mono ?_
    rintro e w1 ⟨rfl, rfl⟩
    go_wp2_with fail
    go_ret
    exact ⟨rfl, j0.same (Only.refl _ _) (fun _ => rfl)⟩
  | true =>
    have C1 := hide (wcommit_open l d es G blk base recs F w j0.lg j0.dk (fun k hk hf => j0.FG k hf hk) j0.inv.sz j0.inv.good hrc)
    go_enter Try.func61, Try.ntmps61
    go_wp2_with fail
    refine (unhide C1).mono ?_
    rintro e w1 ⟨rfl, hd1, hl1, ho1⟩
    have m1 := j0.md.keep ho1 (fun k hk hg => by rcases hg with hg | hg; exact j0.FH k hg hk; exact j0.GH k hg hk)
    have C2 := hide (mcommit_open m1)
    go_wp2_with fail
    refine (unhide C2).mono ?_
    rintro e w2 ⟨rfl, hm2, ho2⟩
    go_wp2_with fail
    go_ret
    have hFi := j0.dk.inn
    have hGi := j0.lg.inn
    have hHi := j0.md.inn
    have s1 := ho1.size
    have fh : ∀ k, Ext F w w1 k → ¬ H k := Ext.off j0.FH hHi
    refine ⟨rfl, replay blk (commitAll blk es), recs ++ commitAll blk es, false, [], cur, cur, nots 80, some cur, Ext F w w1, Ext H w1 w2, ⟨hd1.keep ho2 fh, hl1.keep ho2 j0.GH, hm2, j0.inv.commit_, Ext.off j0.FG hGi, ?_, ?_⟩, ext_or, fun k hk => (ext_or k hk).imp id (fun h => by omega), ?_, .inr ⟨rfl, rfl, rfl, rfl, rfl, rfl⟩⟩
    · intro k hk hh; rcases hh with hh | hh
      · exact fh k hk hh
      · rcases hk with hk | hk
        · have := hFi k hk; omega
        · omega
    · intro k hk hh; rcases hh with hh | hh
      · exact j0.GH k hk hh
      · have := hGi k hk; omega
    · exact (ho1.mono (fun _ _ h => by rcases h with h | h; exact .inl h; exact .inr (.inl h))).trans ho2 (fun _ _ h => .inr (.inr h))

theorem sameWrite_no (a : Int) (s : ByteArray) (q : Int) (j0 : JM w l d m blk base recs op es com cur dirty mbase none F G H) (hk : kind = 4 → op = false)
    (h1 : Calls Try.prog 40 #[.pointer (some ⟨l, 0, none⟩), .int .i64 a, .string s] w fun e w' => e = .returned (.int .i64 q) ∧ w = w') (h2 : Calls Try.prog 78 #[.pointer (some ⟨m, 0, none⟩), .int .i64 a, .string s] w fun e w' => e = .returned (.int .i64 q) ∧ w = w') :
    Calls Try.prog 60 #[.pointer (some ⟨l, 0, none⟩), .pointer (some ⟨m, 0, none⟩), .int .i64 a, .string s] w fun e w' => e = .returned (.bool true) ∧ RPost w l d m base mbase F G H blk recs op es com cur kind w' := by
  have C1 := hide h1
  have C2 := hide h2
  clear h1 h2
  go_enter Try.func60, Try.ntmps60
  go_wp2_with fail
  refine (unhide C1).mono ?_
  rintro e w1 ⟨rfl, rfl⟩
  go_wp2_with fail
  refine (unhide C2).mono ?_
  rintro e w1 ⟨rfl, rfl⟩
  go_wp2_with fail
  go_ret
  exact ⟨by simp, j0.same (Only.refl _ _) hk⟩

theorem sameWrite_any (a : Int) (s : ByteArray) (hs : s.size ≤ maxLen) (j0 : JM w l d m blk base recs op es com cur dirty mbase none F G H) (hk : kind = 4 → op = false) :
    Calls Try.prog 60 #[.pointer (some ⟨l, 0, none⟩), .pointer (some ⟨m, 0, none⟩), .int .i64 a, .string s] w fun e w' => e = .returned (.bool true) ∧ RPost w l d m base mbase F G H blk recs op es com cur kind w' := by
  cases op with
  | false => exact sameWrite_no a s 2 j0 hk (wwrite_shut l d es G a s w j0.lg) (mwrite_shut j0.md a s)
  | true =>
    by_cases hin : 0 ≤ a ∧ a < 80
    · obtain ⟨n, rfl⟩ := Int.eq_ofNat_of_zero_le hin.1
      have hn : n < 80 := by omega
      have hdt := j0.inv.dirt n hn
      cases hat : at? es n with
      | some i =>
        rw [hat] at hdt
        have hx := blockOf_size s
        have C1 := hide (wwrite_old l d es G n i s w j0.lg hn hat hs)
        have Hat := hide hat
        have Hdt := hide hdt
        clear hat hdt
        go_enter Try.func60, Try.ntmps60
        go_wp2_with fail
        refine (unhide C1).mono ?_
        rintro e w1 ⟨rfl, hl1, ho1⟩
        have C2 := hide (mwrite_old (j0.md.keep ho1 (fun k hk hg => j0.GH k hg hk)) n s hn (unhide Hdt) hs)
        go_wp2_with fail
        refine (unhide C2).mono ?_
        rintro e w2 ⟨rfl, hm2, ho2⟩
        go_wp2_with fail
        go_ret
        exact ⟨rfl, j0.two hl1 ho1 hm2 (by simp) ho2 (fun _ h => .inl h) (j0.inv.write_old hn hx (unhide Hat)) hk⟩
      | none =>
        rw [hat] at hdt
        by_cases hlt : es.length < 72
        · have hx := blockOf_size s
          have C1 := hide (wwrite_new l d es G n s w j0.lg hn hat hlt hs)
          have Hat := hide hat
          have Hdt := hide hdt
          clear hat hdt
          go_enter Try.func60, Try.ntmps60
          go_wp2_with fail
          refine (unhide C1).mono ?_
          rintro e w1 ⟨rfl, hl1, ho1⟩
          have C2 := hide (mwrite_new (j0.md.keep ho1 (fun k hk hg => j0.GH k hg hk)) n s hn (unhide Hdt) hlt hs)
          go_wp2_with fail
          refine (unhide C2).mono ?_
          rintro e w2 ⟨rfl, hm2, ho2⟩
          go_wp2_with fail
          go_ret
          exact ⟨rfl, j0.two hl1 ho1 hm2 (by simp) ho2 (fun _ h => .inl h) (j0.inv.write_new hn hx (unhide Hat) hlt) hk⟩
        · have h72 : es.length = 72 := by have := j0.inv.short; omega
          exact sameWrite_no n s 4 j0 hk (wwrite_full l d es G n s w j0.lg hn hat h72) (mwrite_full j0.md n s hn hdt h72)
    · exact sameWrite_no a s 1 j0 hk (wwrite_bad l d es G a s w j0.lg hin) (mwrite_bad j0.md a s hin)

theorem shown_size (h : Inv blk op es com cur dirty) (b : Nat) (hb : b < 80) : (shown blk es b).size = 128 := by
  unfold shown
  cases hat : at? es b with
  | none =>
    have hlt : 73 + b < blk.length := by have := h.len; omega
    have : blk.getD (73 + b) emptyB = blk[73 + b] := by simp [List.getD_eq_getElem?_getD, hlt]
    simp only [this]
    exact h.sz _ (List.getElem_mem hlt)
  | some i =>
    obtain ⟨hi, _, _⟩ := at?_some hat
    have := h.good.size es[i] (List.getElem_mem hi)
    simpa [hi] using this

theorem sameRead_any (a : Int) (j0 : JM w l d m blk base recs op es com cur dirty mbase hist F G H) :
    Calls Try.prog 57 #[.pointer (some ⟨l, 0, none⟩), .pointer (some ⟨m, 0, none⟩), .int .i64 a] w fun e w' => e = .returned (.bool true) ∧ w = w' := by
  by_cases hin : 0 ≤ a ∧ a < 80
  · obtain ⟨n, rfl⟩ := Int.eq_ofNat_of_zero_le hin.1
    have hn : n < 80 := by omega
    exact sameRead_eq j0.lg j0.dk j0.md n hn (j0.inv.curs n hn) (shown_size j0.inv n hn)
  · exact sameRead_out l m w a hin

theorem alike_true (j0 : JM w l d m blk base recs op es com cur dirty mbase hist F G H) :
    Calls Try.prog 26 #[.pointer (some ⟨l, 0, none⟩), .pointer (some ⟨m, 0, none⟩)] w fun e w' => e = .returned (.bool true) ∧ w = w' := by
  have := alike_any j0.lg j0.dk j0.md j0.inv.tells (shown_size j0.inv)
  rw [(gotB_iff blk es cur).2 j0.inv.curs] at this
  exact this
end
end Go.Proofs.Qxb6500415a
