/-
  OWN WORK. THE OBJECT LAW: Scribble, SameRoot, SameFree, SameDrop, SameCommit, SameAbort.
-/
import Derived.Test.Qxb6500419aMObjC
import Derived.Test.Qxb6500419aMObjD
import Derived.Test.Qxb6500419aOImg
import Derived.Test.Qxb6500419aOChk4
namespace Go.Proofs.Qxb6500419a
open Go.RowKit
set_option linter.unusedSimpArgs false
set_option linter.unusedVariables false

def U8s (w : World) (g n : Nat) : Prop := ∀ j, j < n → ∃ x : Nat, x < 256 ∧ w.cell? ⟨g, j, none⟩ = some (.int .u8 (x : Int)) ∧ w.frozen? ⟨g, j, none⟩ = false
theorem U8s.lt {w : World} {g n : Nat} (h : U8s w g n) (hn : 0 < n) : g < w.heap.size := by
  obtain ⟨x, _, hc, _⟩ := h 0 hn
  exact World.block_lt_of_cell? w _ hc
theorem U8s.keep {S : Nat → Prop} {w w' : World} {g n : Nat} (h : U8s w g n) (ho : Only S w w') (hS : ¬ S g) : U8s w' g n := by
  intro j hj
  obtain ⟨x, h1, h2, h3⟩ := h j hj
  have hb := ho.block g (World.block_lt_of_cell? w _ h2) hS
  refine ⟨x, h1, ?_, ?_⟩
  · rw [World.cell?_of_block hb]; exact h2
  · have : w'.frozen? ⟨g, j, none⟩ = w.frozen? ⟨g, j, none⟩ := by simp [World.frozen?, hb]
    rw [this]; exact h3
theorem U8s.set {w : World} {g n : Nat} (h : U8s w g n) (i : Nat) (x : Nat) (hx : x < 256) : U8s (w.setCell ⟨g, i, none⟩ (.int .u8 (x : Int))) g n := by
  intro j hj
  obtain ⟨y, h1, h2, h3⟩ := h j hj
  by_cases e : j = i
  · subst e
    exact ⟨x, hx, World.cell?_setCell_same _ _ _ h2, by rw [World.frozen?_setCell]; exact h3⟩
  · refine ⟨y, h1, ?_, by rw [World.frozen?_setCell]; exact h3⟩
    rw [World.cell?_setCell_other w ⟨g, i, none⟩ ⟨g, j, none⟩ _ (fun he => e (Addr.mk.inj he).2.1.symm)]
    exact h2
theorem U8s.of {w : World} {g n : Nat} {x : Nat → Nat} (h : Has w g (tabV n (u8f x)) 5) (hx : ∀ j, j < n → x j < 256) : U8s w g n := by
  intro j hj
  refine ⟨x j, hx j hj, ?_, h.free j⟩
  rw [h.cell, u8_get _ _ _ hj]

set_option maxRecDepth 100000 in
theorem scribble_any {w : World} {g n cap : Nat} (h : U8s w g cap) (hn : n ≤ cap) (hc : cap ≤ 9223372036854775807) :
    Calls Try.prog 52 #[.slice (some ⟨g, 0, none⟩) n cap] w fun e w' => e = .returned (.tuple #[]) ∧ Only (fun k => k = g) w w' := by
  go_enter Try.func52, Try.ntmps52
  go_wp2_with fail
  go_loopw [2] (fun iv wr => ∃ i : Nat, i ≤ cap ∧ iv = .int .i64 i ∧ U8s wr g cap ∧ Only (fun k => k = g) w wr) (fun iv _ => cap - (intOf iv).toNat)
  case atStart => exact ⟨0, by omega, rfl, h, Only.refl _ _⟩
  case round =>
    clear h
    obtain ⟨i, hi, rfl, hu, ho⟩ := hrel
    by_cases hic : i < cap
    · obtain ⟨x, hx, hcell, hfz⟩ := hu i hic
      have a1 : decide ((i : Int) < (cap : Int)) = true := by simp; omega
      have a2 : (i : Int) < (cap : Int) := by omega
      by_cases h255 : x = 255
      · subst h255
        have Hu := hide (hu.set i 0 (by omega))
        clear hu
        go_wp2_with fail
        go_roundw
        case rel => exact ⟨i + 1, by omega, by go_num, unhide Hu, ho.setCell (p := ⟨g, i, none⟩) (fun _ => rfl) _⟩
        case measure => simp [intOf]; omega
      · have Hu := hide (hu.set i (x + 1) (by omega))
        have a3 : (x : Int) + 1 < 256 := by omega
        clear hu
        go_wp2_with fail
        go_roundw
        case rel => exact ⟨i + 1, by omega, by go_num, unhide Hu, ho.setCell (p := ⟨g, i, none⟩) (fun _ => rfl) _⟩
        case measure => simp [intOf]; omega
    · obtain rfl : i = cap := by omega
      have a1 : decide ((i : Int) < (i : Int)) = false := by simp
      go_wp2_with fail
      go_end0
      exact ⟨rfl, ho⟩

/-- Store and model show one table. -/
structure OJ (w : World) (s d m : Nat) (D B : Nat → Nat) (recs : List Rec) (ob : Nat → Ob) (rt : Nat) (hist : Value) (F H : Nat → Prop) : Prop where
  os : OS w s d D B recs ob rt F
  md : MAt w m ob rt hist H
  off : ∀ k, H k → ¬ (F k ∨ k = s)

section
variable {w : World} {s d m : Nat} {D B : Nat → Nat} {recs : List Rec} {ob ob' : Nat → Ob} {rt rt' : Nat} {hist : Value} {F H : Nat → Prop}

theorem OS.inn (h : OS w s d D B recs ob rt F) : ∀ k, F k → k < w.heap.size := h.dev.inn
theorem OS.lt (h : OS w s d D B recs ob rt F) : s < w.heap.size := by
  obtain ⟨⟨tab, hd, us, nf, bk, hs, hi⟩, _, _⟩ := h
  exact Has.lt hs
theorem OJ.quiet {w' : World} (h : OJ w s d m D B recs ob rt hist F H) (ho : Only (fun _ => False) w w') : OJ w' s d m D B recs ob rt hist F H := ⟨h.os.quiet ho, h.md.quiet ho, h.off⟩
theorem OJ.keep {S : Nat → Prop} {w' : World} (h : OJ w s d m D B recs ob rt hist F H) (ho : Only S w w') (h1 : ∀ k, F k ∨ H k ∨ k = s → ¬ S k) : OJ w' s d m D B recs ob rt hist F H :=
  ⟨h.os.keep ho (h1 s (.inr (.inr rfl))) (fun k hk => h1 k (.inl hk)), h.md.keep ho (fun k hk => h1 k (.inr (.inl hk))), h.off⟩

theorem oroot_any (h : OS w s d D B recs ob rt F) :
    Calls Try.prog 60 #[.pointer (some ⟨s, 0, none⟩)] w fun e w' => e = .returned (.int .i64 (rt : Int)) ∧ w = w' := by
  obtain ⟨⟨tab, hd, us, nf, bk, hs, hi⟩, hv, hf⟩ := h
  have c := hs.root.1
  go_enter Try.func60, Try.ntmps60
  go_wp2
  go_ret
  exact ⟨rfl, rfl⟩
theorem ofree_any (h : OS w s d D B recs ob rt F) :
    Calls Try.prog 62 #[.pointer (some ⟨s, 0, none⟩)] w fun e w' => e = .returned (.int .i64 (cntF ob : Nat)) ∧ w = w' := by
  obtain ⟨⟨tab, hd, us, nf, bk, hs, hi⟩, hv, hf⟩ := h
  have c := hs.nfree.1
  rw [hi.rows.nfree] at c
  generalize cntF ob = cf at *
  go_enter Try.func62, Try.ntmps62
  go_wp2
  go_ret
  exact ⟨rfl, rfl⟩

theorem sameRoot_any (h : OS w s d D B recs ob rt F) (hm : MAt w m ob' rt' hist H) :
    Calls Try.prog 34 #[.pointer (some ⟨s, 0, none⟩), .pointer (some ⟨m, 0, none⟩)] w fun e w' => e = .returned (.bool ((rt : Int) == (rt' : Int))) ∧ w = w' := by
  have C1 := hide (oroot_any h)
  have C2 := hide (mroot_any hm)
  go_enter Try.func34, Try.ntmps34
  go_wp2_with fail
  refine (unhide C1).mono ?_
  rintro e w' ⟨rfl, rfl⟩
  go_wp2_with fail
  refine (unhide C2).mono ?_
  rintro e w' ⟨rfl, rfl⟩
  go_wp2_with fail
  go_ret
  exact ⟨rfl, rfl⟩
theorem sameFree_any (h : OS w s d D B recs ob rt F) (hm : MAt w m ob' rt' hist H) :
    Calls Try.prog 35 #[.pointer (some ⟨s, 0, none⟩), .pointer (some ⟨m, 0, none⟩)] w fun e w' => e = .returned (.bool ((cntF ob : Int) == (cntF ob' : Int))) ∧ w = w' := by
  have C1 := ofree_any h
  have C2 := mfree_any hm
  generalize cntF ob = c1 at *
  generalize cntF ob' = c2 at *
  have C1 := hide C1
  have C2 := hide C2
  go_enter Try.func35, Try.ntmps35
  go_wp2_with fail
  refine (unhide C1).mono ?_
  rintro e w' ⟨rfl, rfl⟩
  go_wp2_with fail
  refine (unhide C2).mono ?_
  rintro e w' ⟨rfl, rfl⟩
  go_wp2_with fail
  go_ret
  exact ⟨rfl, rfl⟩

/-- What an op leaves: b the device's content at the mark, ob0, rt0 the table ahead of the op. -/
structure OStep (w w' : World) (s d m : Nat) (D : Nat → Nat) (ob : Nat → Ob) (rt : Nat) (F H : Nat → Prop) (recs' : List Rec) (ob' : Nat → Ob) (hl : Nat) : Prop where
  ex : ∃ rt' a cap F' H', OJ w' s d m (replayB D recs') D recs' ob' rt' (.slice a hl cap) F' H' ∧ (∀ k, F' k ∨ H' k → F k ∨ H k ∨ w.heap.size ≤ k) ∧ (recs' = [] → per ob' = per ob ∧ rt' = rt)
  mid : ∀ kk, kk < recs'.length → Img (replayB D (recs'.take kk)) rt (per ob)
  keys : ∀ r ∈ recs', r.1 < 145
  few : recs'.length ≤ 3
  only : Only (fun k => F k ∨ H k ∨ k = s) w w'

theorem OStep.same {w' : World} {a : Option Addr} {hl cap : Nat} (h : OJ w s d m D D [] ob rt (.slice a hl cap) F H) (ho : Only (fun _ => False) w w') : OStep w w' s d m D ob rt F H [] ob hl :=
  ⟨⟨rt, a, cap, F, H, h.quiet ho, fun k hk => by rcases hk with h | h; exact .inl h; exact .inr (.inl h), fun _ => ⟨rfl, rfl⟩⟩, fun kk hk => by simp at hk, fun r hr => by simp at hr, by simp, ho.mono (fun _ _ h => h.elim)⟩

theorem abort_abort (o : Ob) : abortO (abortO o) = abortO o := by
  unfold abortO
  by_cases h1 : o.st = 1
  · rw [if_pos h1]; rfl
  · rw [if_neg h1]
    by_cases h3 : o.st = 3
    · rw [if_pos h3]; rfl
    · rw [if_neg h3, if_neg h1, if_neg h3]
theorem abort_drop (o : Ob) (hl : liveO o = true) : abortO (dropO o) = abortO o := by
  obtain ⟨st, kd, dat, ch⟩ := o
  have h : st = 1 ∨ st = 2 := by simpa [liveO] using hl
  rcases h with rfl | rfl <;> rfl
theorem per_drop {i : Nat} (hl : liveO (ob i) = true) : per (updT ob i (dropO (ob i))) = per ob := by
  funext j
  unfold per
  by_cases e : j = i
  · subst e; rw [updT_same]; exact abort_drop _ hl
  · rw [updT_other _ _ _ _ e]
theorem drop_len (o : Ob) : (dropO o).dat.length ≤ o.dat.length := by
  unfold dropO
  split
  · simp [Ob.free]
  · simp [setSt]

theorem sameDrop_any {a : Option Addr} {hl cap : Nat} (h : OJ w s d m D D [] ob rt (.slice a hl cap) F H) (id : Int) :
    Calls Try.prog 31 #[.pointer (some ⟨s, 0, none⟩), .pointer (some ⟨m, 0, none⟩), .int .i64 id] w fun e w' => e = .returned (.bool true) ∧ ∃ ob', OStep w w' s d m D ob rt F H [] ob' hl := by
  have hmi := h.md.inn
  have hFi := h.os.inn
  cases hlv : liveI ob id with
  | false =>
    have C1 := hide (drop_no h.os id hlv)
    have C2 := hide (mdrop_no h.md id hlv)
    go_enter Try.func31, Try.ntmps31
    go_wp2_with fail
    refine (unhide C1).mono ?_
    rintro e w' ⟨rfl, rfl⟩
    go_wp2_with fail
    refine (unhide C2).mono ?_
    rintro e w' ⟨rfl, rfl⟩
    go_wp2_with fail
    go_ret
    exact ⟨rfl, ob, OStep.same h (Only.refl _ _)⟩
  | true =>
    have hin : 1 ≤ id ∧ id ≤ 48 := by
      by_cases hh : 1 ≤ id ∧ id ≤ 48
      · exact hh
      · rw [liveI_out ob id hh] at hlv; cases hlv
    obtain ⟨i, rfl⟩ : ∃ i : Nat, id = i := ⟨id.toNat, by omega⟩
    have hi : In i := ⟨by omega, by omega⟩
    rw [liveI_nat ob i hi] at hlv
    have C1 := hide (drop_in h.os i hi hlv)
    have C2 := hide (fun (w1 : World) (hm : MAt w1 m ob rt (.slice a hl cap) H) => mdrop_in hm i hi hlv)
    have hper := per_drop (ob := ob) hlv
    clear hlv
    go_enter Try.func31, Try.ntmps31
    go_wp2_with fail
    refine (unhide C1).mono ?_
    rintro e w1 ⟨rfl, h1, ho1⟩
    have hm1 := h.md.keep ho1 (fun k hk e => h.off k hk (.inr e))
    go_wp2_with fail
    refine (unhide C2 _ hm1).mono ?_
    rintro e w2 ⟨rfl, hm2, ho2⟩
    go_wp2_with fail
    go_ret
    have hms : m ≠ s := fun e => h.off m h.md.own (.inr e)
    have hmF : ∀ k, F k → k ≠ m := fun k hk e => h.off m h.md.own (.inl (e ▸ hk))
    refine ⟨rfl, _, ⟨⟨rt, a, cap, F, H, ⟨h1.keep ho2 (fun e => hms e.symm) hmF, hm2, h.off⟩, fun k hk => by rcases hk with h | h; exact .inl h; exact .inr (.inl h), fun _ => ⟨hper, rfl⟩⟩, fun kk hk => by simp at hk, fun r hr => by simp at hr, by simp, ?_⟩⟩
    exact (ho1.mono (fun _ _ e => .inr (.inr e))).trans ho2 (fun i hi e => .inr (.inl (e ▸ h.md.own)))

theorem sameAbort_any {a : Option Addr} {hl cap : Nat} (h : OJ w s d m D D [] ob rt (.slice a hl cap) F H) :
    Calls Try.prog 33 #[.pointer (some ⟨s, 0, none⟩), .pointer (some ⟨m, 0, none⟩)] w fun e w' => e = .returned (.bool true) ∧ ∃ ob', OStep w w' s d m D ob rt F H [] ob' hl := by
  have C1 := hide (abort_any h.os)
  have C2 := hide (fun (w1 : World) (hm : MAt w1 m ob rt (.slice a hl cap) H) => mabort_any hm)
  go_enter Try.func33, Try.ntmps33
  go_wp2_with fail
  refine (unhide C1).mono ?_
  rintro e w1 ⟨rfl, h1, ho1⟩
  have hm1 := h.md.keep ho1 (fun k hk e => h.off k hk (.inr e))
  go_wp2_with fail
  refine (unhide C2 _ hm1).mono ?_
  rintro e w2 ⟨rfl, hm2, ho2⟩
  go_wp2_with fail
  go_ret
  have hms : m ≠ s := fun e => h.off m h.md.own (.inr e)
  have hmF : ∀ k, F k → k ≠ m := fun k hk e => h.off m h.md.own (.inl (e ▸ hk))
  refine ⟨rfl, _, ⟨⟨rt, a, cap, F, H, ⟨h1.keep ho2 (fun e => hms e.symm) hmF, hm2, h.off⟩, fun k hk => by rcases hk with h | h; exact .inl h; exact .inr (.inl h), fun _ => ⟨funext fun i => abort_abort (ob i), rfl⟩⟩, fun kk hk => by simp at hk, fun r hr => by simp at hr, by simp, ?_⟩⟩
  exact (ho1.mono (fun _ _ e => .inr (.inr e))).trans ho2 (fun i hi e => .inr (.inl (e ▸ h.md.own)))

theorem sameCommit_any (h : OJ w s d m D D [] ob rt (.slice none 0 0) F H) (id : Int) :
    Calls Try.prog 32 #[.pointer (some ⟨s, 0, none⟩), .pointer (some ⟨m, 0, none⟩), .int .i64 id] w fun e w' => e = .returned (.bool true) ∧ ∃ recs' ob', OStep w w' s d m D ob rt F H recs' ob' recs'.length := by
  by_cases hok : id = 0 ∨ liveI ob id = true
  · obtain ⟨r, rfl, hr⟩ : ∃ r : Nat, id = r ∧ (r = 0 ∨ (In r ∧ liveO (ob r) = true)) := by
      rcases hok with rfl | hl
      · exact ⟨0, rfl, .inl rfl⟩
      · have hin : 1 ≤ id ∧ id ≤ 48 := by
          by_cases hh : 1 ≤ id ∧ id ≤ 48
          · exact hh
          · rw [liveI_out ob id hh] at hl; cases hl
        obtain ⟨i, rfl⟩ : ∃ i : Nat, id = i := ⟨id.toNat, by omega⟩
        have hi : In i := ⟨by omega, by omega⟩
        rw [liveI_nat ob i hi] at hl
        exact ⟨i, rfl, .inr ⟨hi, hl⟩⟩
    have C1 := hide (commit_in h.os r hr (by simp))
    have C2 := hide (fun (w1 : World) (hm : MAt w1 m ob rt (.slice none 0 0) H) => mcommit_in hm r hr)
    have hFi := h.os.inn
    have hmi := h.md.inn
    clear hok hr
    go_enter Try.func32, Try.ntmps32
    go_wp2_with fail
    refine (unhide C1).mono ?_
    rintro e w1 ⟨rfl, h1, ho1⟩
    have hm1 := h.md.keep ho1 (fun k hk e => h.off k hk e.symm)
    have s1 := ho1.size
    go_wp2_with fail
    refine (unhide C2 _ hm1).mono ?_
    rintro e w2 ⟨rfl, ⟨a, cap, hm2⟩, ho2⟩
    go_wp2_with fail
    go_ret
    have hms : m ≠ s := fun e => h.off m h.md.own (.inr e)
    have hmF : ∀ k, Ext F w w1 k → k ≠ m := fun k hk e => by
      subst e
      rcases hk with hk | hk
      · exact h.off _ h.md.own (.inl hk)
      · have := hmi _ h.md.own; omega
    refine ⟨rfl, [(0, supF ob r)], _, ⟨⟨r, a, cap, Ext F w w1, H, ⟨h1.keep ho2 (fun e => hms e.symm) hmF, hm2, fun k hk e => ?_⟩, fun k hk => ?_, fun h => by simp at h⟩, fun kk hk => ?_, ?_, by simp, ?_⟩⟩
    · rcases e with (e | e) | e
      · exact h.off k hk (.inl e)
      · have := hmi k hk; omega
      · exact h.off k hk (.inr e)
    · rcases hk with (hk | hk) | hk
      · exact .inl hk
      · exact .inr (.inr hk.1)
      · exact .inr (.inl hk)
    · obtain rfl : kk = 0 := by simp at hk; exact hk
      exact h.os.img
    · intro x hx
      simp at hx
      subst hx
      show 0 < 145
      omega
    · exact (ho1.mono (fun _ _ e => by rcases e with e | e; exact .inr (.inr e); exact .inl e)).trans ho2 (fun i hi e => .inr (.inl (e ▸ h.md.own)))
  · have h0 : id ≠ 0 := fun e => hok (.inl e)
    have hl : liveI ob id = false := by
      cases hh : liveI ob id with
      | false => rfl
      | true => exact absurd (.inr hh) hok
    have C1 := hide (commit_no h.os id h0 hl)
    have C2 := hide (mcommit_no h.md id h0 hl)
    clear hok hl
    go_enter Try.func32, Try.ntmps32
    go_wp2_with fail
    refine (unhide C1).mono ?_
    rintro e w' ⟨rfl, rfl⟩
    go_wp2_with fail
    refine (unhide C2).mono ?_
    rintro e w' ⟨rfl, rfl⟩
    go_wp2_with fail
    go_ret
    exact ⟨rfl, [], ob, OStep.same h (Only.refl _ _)⟩
end
end Go.Proofs.Qxb6500419a
