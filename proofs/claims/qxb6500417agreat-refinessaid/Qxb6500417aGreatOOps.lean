/-
  OWN WORK. THE OBJECT STORE: Get, Drop, Abort.
-/
import Derived.Test.Qxb6500417aGreatOInv
namespace Go.Proofs.Qxb6500417aGreat
open Go.RowKit
set_option linter.unusedSimpArgs false
set_option linter.unusedVariables false

structure OS (w : World) (s d : Nat) (D B : Nat → Nat) (recs : List Rec) (ob : Nat → Ob) (rt : Nat) (F : Nat → Prop) : Prop where
  ex : ∃ tab hd us nf bk, SAt w s d tab hd us nf rt ∧ SInv D tab hd us nf rt ob bk
  dev : DevAt w d D B recs F
  off : ¬ F s

def setSt (o : Ob) (x : Nat) : Ob := { o with st := x }
def abortO (o : Ob) : Ob := if o.st = 1 then Ob.free else if o.st = 3 then setSt o 2 else o
def comO (o : Ob) : Ob := if o.st = 1 then setSt o 2 else if o.st = 3 then Ob.free else o
def dropO (o : Ob) : Ob := if o.st = 1 then Ob.free else setSt o 3
def upTo (f : Ob → Ob) (ob : Nat → Ob) (k : Nat) : Nat → Ob := fun i => if i < k then f (ob i) else ob i
theorem upTo_at (f : Ob → Ob) (ob : Nat → Ob) (k : Nat) : upTo f ob k k = ob k := by simp [upTo]
theorem upTo_succ (f : Ob → Ob) (ob : Nat → Ob) (k : Nat) : upTo f ob (k + 1) = updT (upTo f ob k) k (f (ob k)) := by
  funext i
  unfold upTo updT
  by_cases e : i = k
  · subst e; rw [if_pos (by omega), if_pos rfl]
  · rw [if_neg e]
    show _ = if i < k then f (ob i) else ob i
    by_cases h : i < k
    · rw [if_pos h, if_pos (by omega)]
    · rw [if_neg h, if_neg (by omega)]
theorem updT_self {α : Type} (f : Nat → α) (i : Nat) : updT f i (f i) = f := by
  funext j
  unfold updT
  by_cases e : j = i
  · subst e; simp
  · simp [e]
theorem updT_upd {α : Type} (f : Nat → α) (i : Nat) (a b : α) : updT (updT f i a) i b = updT f i b := by
  funext j
  unfold updT
  by_cases e : j = i
  · simp [e]
  · simp [e]

section
variable {w : World} {s d : Nat} {tab : Nat → Ent} {hd us : Nat → Nat} {nf rt : Nat} {D B : Nat → Nat} {recs : List Rec} {F : Nat → Prop} {ob : Nat → Ob} {bk : Nat → List Nat}

theorem OS.keep {S : Nat → Prop} {w' : World} (h : OS w s d D B recs ob rt F) (ho : Only S w w') (h1 : ¬ S s) (h2 : ∀ k, F k → ¬ S k) : OS w' s d D B recs ob rt F := by
  obtain ⟨⟨tab, hd, us, nf, bk, hs, hi⟩, hv, hf⟩ := h
  exact ⟨⟨tab, hd, us, nf, bk, hs.keep ho h1, hi⟩, hv.keep ho h2, hf⟩
theorem OS.quiet {w' : World} (h : OS w s d D B recs ob rt F) (ho : Only (fun _ => False) w w') : OS w' s d D B recs ob rt F := h.keep ho (fun h => h) (fun _ _ h => h)

theorem liveE_eq (h : Rows D tab us nf ob) {i : Nat} (hi : In i) : liveE (tab i) = liveO (ob i) := by
  unfold liveE liveO
  rw [h.st i hi]

/-- live, for any number. -/
def liveI (ob : Nat → Ob) (id : Int) : Bool := decide (1 ≤ id ∧ id ≤ 48) && liveO (ob id.toNat)
theorem liveI_out (ob : Nat → Ob) (id : Int) (h : ¬ (1 ≤ id ∧ id ≤ 48)) : liveI ob id = false := by unfold liveI; simp only [h, decide_false, Bool.false_and]
theorem liveI_nat (ob : Nat → Ob) (i : Nat) (h : In i) : liveI ob (i : Int) = liveO (ob i) := by
  unfold liveI
  have : (1 : Int) ≤ (i : Int) ∧ (i : Int) ≤ 48 := by have := h.1; have := h.2; omega
  simp only [this, and_self, decide_true, Bool.true_and, Int.toNat_natCast]
theorem live_any (hs : SAt w s d tab hd us nf rt) (hr : Rows D tab us nf ob) (id : Int) :
    Calls Tryz.prog 171 #[.pointer (some ⟨s, 0, none⟩), .int .i64 id] w fun e w' => e = .returned (.bool (liveI ob id)) ∧ w = w' := by
  by_cases h : 1 ≤ id ∧ id ≤ 48
  · obtain ⟨i, rfl⟩ : ∃ i : Nat, id = i := ⟨id.toNat, by omega⟩
    have hi : In i := ⟨by omega, by omega⟩
    rw [liveI_nat ob i hi, ← liveE_eq hr hi]
    exact live_in hs i hi.1 hi.2
  · rw [liveI_out ob id h]
    exact live_out s w id h

theorem get_no (h : OS w s d D B recs ob rt F) (id : Int) (hl : liveI ob id = false) :
    Calls Tryz.prog 129 #[.pointer (some ⟨s, 0, none⟩), .int .i64 id] w fun e w' => e = .returned (.tuple #[.int .i64 0, .slice none 0 0, .int .i64 6]) ∧ w = w' := by
  obtain ⟨⟨tab, hd, us, nf, bk, hs, hi⟩, hv, hf⟩ := h
  have C1 := live_any hs hi.rows id
  rw [hl] at C1
  have C1 := hide C1
  go_enter Tryz.func129, Tryz.ntmps129
  go_wp2_with fail
  refine (unhide C1).mono ?_
  rintro e w1 ⟨rfl, rfl⟩
  go_wp2_with fail
  refine bodyPost_ret (v := .tuple #[.int .i64 0, .slice none 0 0, .int .i64 6]) (by simp [results, Tryz.results129, go_sem]) rfl ?_
  exact ⟨rfl, rfl⟩

theorem liveO_ne {o : Ob} (h : liveO o = true) : o.st ≠ 0 := by
  intro e
  unfold liveO at h
  rw [e] at h
  simp at h

theorem get_in (h : OS w s d D B recs ob rt F) (i : Nat) (hin : In i) (hl : liveO (ob i) = true) (n : Nat) (hn : (ob i).dat.length = n) :
    Calls Tryz.prog 129 #[.pointer (some ⟨s, 0, none⟩), .int .i64 i] w fun e w' => e = .returned (.tuple #[.int .i64 ((ob i).kd : Int), .slice (some ⟨w.heap.size, 0, none⟩) n n, .int .i64 0]) ∧ Has w' w.heap.size (tabV n (u8f (dF (ob i).dat))) 5 ∧ Only (fun _ => False) w w' := by
  obtain ⟨⟨tab, hd, us, nf, bk, hs, hi⟩, hv, hf⟩ := h
  have C1 := live_any hs hi.rows i
  rw [liveI_nat ob i hin, hl] at C1
  have C1 := hide C1
  have hH := hi.rows.held i hin (liveO_ne hl)
  have C2 := hide (bytesOf_any hs hv i (by have := hin.2; omega) (hn ▸ hH.lies) (hn ▸ hH.n180) (hn ▸ hH.size) hH.first)
  have ck := hide (fun w' (ho : Only (fun _ => False) w w') => (((hs.keep ho (fun h => h)).ent i 1 (by have := hin.2; omega) (by omega)).1))
  have hk := hH.kind
  have i1 : (i : Int) < 49 := by have := hin.2; omega
  go_enter Tryz.func129, Tryz.ntmps129
  go_wp2_with fail
  refine (unhide C1).mono ?_
  rintro e w1 ⟨rfl, rfl⟩
  go_wp2_with fail
  refine (unhide C2).mono ?_
  rintro e w2 ⟨rfl, h2, ho2⟩
  have c1 := (unhide ck) _ ho2
  simp only [entCell] at c1
  rw [hk] at c1
  go_wp2_with fail
  refine bodyPost_ret (v := .tuple #[.int .i64 ((ob i).kd : Int), .slice (some ⟨w.heap.size, 0, none⟩) n n, .int .i64 0]) (by simp [results, Tryz.results129, go_sem]) rfl ?_
  exact ⟨rfl, h2, ho2⟩

/-- The members of a live id's bucket. -/
theorem Bucks.at_ (h : Bucks tab hd ob bk) {i : Nat} (hi : In i) (hl : liveO (ob i) = true) : ∃ p, p < (bk ((tab i).hash % 8)).length ∧ (bk ((tab i).hash % 8)).getD p 0 = i := by
  have hm := (h.mem ((tab i).hash % 8) (Nat.mod_lt _ (by omega)) i).2 ⟨hi, hl, rfl⟩
  obtain ⟨p, hp, he⟩ := List.getElem_of_mem hm
  exact ⟨p, hp, by rw [getD_in hp]; exact he⟩

theorem SAt.setState (h : SAt w s d tab hd us nf rt) (i : Nat) (hi : i < 49) (x : Nat) : SAt (w.setCell ⟨s, 1 + i * 6, none⟩ (.int .i64 (x : Int))) s d (updT tab i { tab i with state := x }) hd us nf rt :=
  h.setEnt i 0 hi (by omega) _ _ rfl (fun g hg hg5 => by
    match g, hg with
    | 0, _ => exact absurd rfl hg5
    | 1, _ => rfl
    | 2, _ => rfl
    | 3, _ => rfl
    | 4, _ => rfl
    | 5, _ => rfl)

theorem Unhung.rows {tab' : Nat → Ent} {hd' : Nat → Nat} {b i p : Nat} {l : List Nat} (h : Rows D tab us nf ob) (hU : Unhung tab tab' hd hd' b i p l) (hl : ∀ a ∈ l, In a → liveO (ob a) = true) : Rows D tab' us nf ob := by
  refine h.next hU.nx (fun j hj h0 => hU.out j (fun hm => ?_))
  exact liveO_ne (hl j hm hj) h0

theorem Super.congr {ob' : Nat → Ob} (h : Super D rt ob) (hl : ∀ i, In i → lastO (ob' i) = lastO (ob i)) (hc : ∀ i, In i → lastO (ob i) = true → (ob' i).ch = (ob i).ch) : Super D rt ob' := by
  refine ⟨h.root0, h.root1, fun h0 => ?_, fun i hi => ?_, h.rest⟩
  · have : In rt := ⟨by omega, h.root1⟩
    rw [hl rt this]; exact h.root2 h0
  · rw [hl i hi, h.row i hi]
    by_cases e : lastO (ob i) = true
    · rw [if_pos e, if_pos e, hc i hi e]
    · rw [if_neg e, if_neg e]
theorem Tw.sub {p q : Ob → Bool} {ob' : Nat → Ob} (h : Tw p ob) (hs : ∀ i, In i → q (ob' i) = true → p (ob i) = true ∧ (ob' i).kd = (ob i).kd ∧ (ob' i).dat = (ob i).dat) : Tw q ob' := by
  intro i j hi hj h1 h2 h3 h4
  obtain ⟨a1, a2, a3⟩ := hs i hi h1
  obtain ⟨b1, b2, b3⟩ := hs j hj h2
  exact h i j hi hj a1 b1 (by rw [← a2, ← b2]; exact h3) (by rw [← a3, ← b3]; exact h4)

theorem last_free : lastO Ob.free = false := rfl
theorem live_free : liveO Ob.free = false := rfl
theorem drop_last (o : Ob) (h : liveO o = true) : lastO (dropO o) = lastO o := by
  unfold dropO lastO setSt
  unfold liveO at h
  by_cases e : o.st = 1
  · rw [if_pos e, e]; rfl
  · rw [if_neg e]
    have : o.st = 2 := by simpa [e] using h
    rw [this]; rfl
theorem drop_live (o : Ob) : liveO (dropO o) = false := by
  unfold dropO
  by_cases e : o.st = 1
  · rw [if_pos e]; rfl
  · rw [if_neg e]; rfl
theorem drop_same (o : Ob) (h : lastO o = true) : dropO o = setSt o 3 := by
  unfold dropO
  rw [if_neg (by intro e; unfold lastO at h; rw [e] at h; simp at h)]

theorem OS.dropped (h : SInv D tab hd us nf rt ob bk) {tab' : Nat → Ent} {hd' us' : Nat → Nat} {nf' : Nat} {bk' : Nat → List Nat} {i : Nat} (hi : In i) (hl : liveO (ob i) = true)
    (hr : Rows D tab' us' nf' (updT ob i (dropO (ob i)))) (hb : Bucks tab' hd' (updT ob i (dropO (ob i))) bk') : SInv D tab' hd' us' nf' rt (updT ob i (dropO (ob i))) bk' := by
  refine ⟨hr, hb, h.super.congr ?_ ?_, h.twl.sub ?_, h.twp.sub ?_⟩
  · intro j hj
    by_cases e : j = i
    · subst e; rw [updT_same]; exact drop_last _ hl
    · rw [updT_other _ _ _ _ e]
  · intro j hj h1
    by_cases e : j = i
    · subst e; rw [updT_same, drop_same _ h1]; rfl
    · rw [updT_other _ _ _ _ e]
  · intro j hj h1
    by_cases e : j = i
    · subst e; rw [updT_same, drop_live] at h1; cases h1
    · rw [updT_other _ _ _ _ e] at h1 ⊢; exact ⟨h1, rfl, rfl⟩
  · intro j hj h1
    by_cases e : j = i
    · subst e; rw [updT_same] at h1 ⊢
      rw [drop_last _ hl] at h1
      rw [drop_same _ h1]
      exact ⟨h1, rfl, rfl⟩
    · rw [updT_other _ _ _ _ e] at h1 ⊢; exact ⟨h1, rfl, rfl⟩

theorem drop_no (h : OS w s d D B recs ob rt F) (id : Int) (hl : liveI ob id = false) :
    Calls Tryz.prog 177 #[.pointer (some ⟨s, 0, none⟩), .int .i64 id] w fun e w' => e = .returned (.int .i64 6) ∧ w = w' := by
  obtain ⟨⟨tab, hd, us, nf, bk, hs, hi⟩, hv, hf⟩ := h
  have C1 := live_any hs hi.rows id
  rw [hl] at C1
  have C1 := hide C1
  go_enter Tryz.func177, Tryz.ntmps177
  go_wp2_with fail
  refine (unhide C1).mono ?_
  rintro e w1 ⟨rfl, rfl⟩
  go_wp2_with fail
  go_ret
  exact ⟨rfl, rfl⟩

set_option maxRecDepth 100000 in
set_option maxHeartbeats 2000000 in
theorem drop_in (h : OS w s d D B recs ob rt F) (i : Nat) (hin : In i) (hl : liveO (ob i) = true) :
    Calls Tryz.prog 177 #[.pointer (some ⟨s, 0, none⟩), .int .i64 i] w fun e w' => e = .returned (.int .i64 0) ∧ OS w' s d D B recs (updT ob i (dropO (ob i))) rt F ∧ Only (fun k => k = s) w w' := by
  obtain ⟨⟨tab, hd, us, nf, bk, hs, hi⟩, hv, hf⟩ := h
  have C1 := live_any hs hi.rows i
  rw [liveI_nat ob i hin, hl] at C1
  have C1 := hide C1
  have hH := hi.rows.held i hin (liveO_ne hl)
  have i49 : i < 49 := by have := hin.2; omega
  obtain ⟨p, hp, hip⟩ := hi.bucks.at_ hin hl
  have hb8 : (tab i).hash % 8 < 8 := Nat.mod_lt _ (by omega)
  have C2 := hide (unhang_any hs i i49 hH.hlt (bk ((tab i).hash % 8)) p (hi.bucks.link _ hb8) hp hip)
  have hst := hi.rows.st i hin
  have i1 : (i : Int) < 49 := by omega
  go_enter Tryz.func177, Tryz.ntmps177
  go_wp2_with fail
  refine (unhide C1).mono ?_
  rintro e w1 ⟨rfl, rfl⟩
  go_wp2_with fail
  refine (unhide C2).mono ?_
  rintro e w2 ⟨rfl, ⟨tab', hd', hs2, hU⟩, ho2⟩
  have hR := hU.rows hi.rows (fun a ha _ => ((hi.bucks.mem _ hb8 a).1 ha).2.1)
  have hv2 := hv.keep ho2 (fun y hy e => hf (e ▸ hy))
  have c0 := hs2.state i i49
  rw [hR.st i hin] at c0
  have hH2 := hR.held i hin (liveO_ne hl)
  by_cases e1 : (ob i).st = 1
  · have ed : dropO (ob i) = Ob.free := by unfold dropO; rw [if_pos e1]
    rw [e1] at c0
    have hnf : nf < 1000 := by rw [hi.rows.nfree]; have := cntF_le ob; omega
    have C3 := hide (release_any hs2 hv2 hf hH2.lies hR.words i i49 hH2.first hnf)
    have hr3 := hR.release hin (liveO_ne hl)
    have hb3 : Bucks (updT tab' i Ent.zero) hd' (updT ob i Ob.free) (updT bk ((tab i).hash % 8) ((bk ((tab i).hash % 8)).eraseIdx p)) :=
      hi.bucks.unhang hb8 hp hip hU (by rw [updT_same]; rfl) (fun j hj => updT_other _ _ _ _ hj) (fun j hj => by rw [updT_other _ _ _ _ hj]; exact ⟨rfl, rfl⟩)
    have hfin := OS.dropped hi hin hl (by rw [ed]; exact hr3) (by rw [ed]; exact hb3)
    have Hfin := hide hfin
    clear hfin hr3 hb3
    go_wp2_with fail
    refine (unhide C3).mono ?_
    rintro e w3 ⟨rfl, hs3, ho3⟩
    go_wp2_with fail
    go_ret
    exact ⟨rfl, ⟨⟨_, _, _, _, _, hs3, unhide Hfin⟩, hv2.keep ho3 (fun y hy e => hf (e ▸ hy)), hf⟩, ho2.trans ho3 (fun _ _ h => h)⟩
  · have e2 : (ob i).st = 2 := by unfold liveO at hl; simpa [e1] using hl
    have ed : dropO (ob i) = { ob i with st := 3 } := by unfold dropO setSt; rw [if_neg e1]
    rw [e2] at c0
    have hs3 := hs2.setState i i49 3
    have hr3 := hR.setState hin (liveO_ne hl) 3 (by omega) (by omega)
    have hb3 : Bucks (updT tab' i { tab' i with state := 3 }) hd' (updT ob i { ob i with st := 3 }) (updT bk ((tab i).hash % 8) ((bk ((tab i).hash % 8)).eraseIdx p)) :=
      hi.bucks.unhang hb8 hp hip hU (by rw [updT_same]; rfl) (fun j hj => updT_other _ _ _ _ hj) (fun j hj => by rw [updT_other _ _ _ _ hj]; exact ⟨rfl, rfl⟩)
    have hfin := OS.dropped hi hin hl (by rw [ed]; exact hr3) (by rw [ed]; exact hb3)
    have Hfin := hide hfin
    have Hs3 := hide hs3
    clear hfin hr3 hb3 hs3
    have o3 : Only (fun k => k = s) w2 (w2.setCell ⟨s, 1 + i * 6, none⟩ (.int .i64 ((3 : Nat) : Int))) := only1 (p := s) (1 + i * 6) _
    go_wp2_with fail
    go_ret
    exact ⟨rfl, ⟨⟨_, _, _, _, _, unhide Hs3, unhide Hfin⟩, hv2.keep o3 (fun y hy e => hf (e ▸ hy)), hf⟩, ho2.trans o3 (fun _ _ h => h)⟩

/-- One step of Abort, in plain terms. -/
theorem abort_last (o : Ob) (h3 : o.st ≤ 3) : lastO (abortO o) = lastO o ∧ liveO (abortO o) = lastO o := by
  unfold abortO
  by_cases e1 : o.st = 1
  · rw [if_pos e1]; unfold lastO; rw [e1]; exact ⟨rfl, rfl⟩
  · rw [if_neg e1]
    by_cases e3 : o.st = 3
    · rw [if_pos e3]; unfold lastO setSt; rw [e3]; exact ⟨rfl, rfl⟩
    · rw [if_neg e3]
      refine ⟨rfl, ?_⟩
      unfold liveO lastO
      have : o.st = 0 ∨ o.st = 2 := by omega
      rcases this with h | h <;> rw [h] <;> rfl
theorem abort_keep (o : Ob) (h : lastO o = true) : (abortO o).ch = o.ch ∧ (abortO o).kd = o.kd ∧ (abortO o).dat = o.dat := by
  unfold abortO
  have e1 : o.st ≠ 1 := by intro e; unfold lastO at h; rw [e] at h; simp at h
  rw [if_neg e1]
  by_cases e3 : o.st = 3
  · rw [if_pos e3]; exact ⟨rfl, rfl, rfl⟩
  · rw [if_neg e3]; exact ⟨rfl, rfl, rfl⟩


theorem Rows.ext {ob' : Nat → Ob} (h : Rows D tab us nf ob) (he : ∀ i, In i → ob' i = ob i) : Rows D tab us nf ob' := by
  refine ⟨fun i hi => by rw [he i hi]; exact h.st i hi, fun i hi => by rw [he i hi]; exact h.le3 i hi, fun i hi => by rw [he i hi]; exact h.free i hi, fun i hi => by rw [he i hi]; exact h.held i hi, fun i hi => by rw [he i hi]; exact h.nodup i hi, fun i j hi hj => by rw [he i hi, he j hj]; exact h.disj i j hi hj, ?_, h.words, h.high, ?_⟩
  · intro b hb
    rw [h.used b hb]
    constructor
    · rintro ⟨i, hi, hm⟩; exact ⟨i, hi, by rw [he i hi]; exact hm⟩
    · rintro ⟨i, hi, hm⟩; exact ⟨i, hi, by rw [he i hi] at hm; exact hm⟩
  · rw [h.nfree]
    unfold cntF
    apply cntTo_congr
    intro i hi
    unfold isFree
    by_cases e : i = 0
    · simp [e]
    · rw [he i ⟨by omega, by omega⟩]
theorem Bucks.ext {ob' : Nat → Ob} (h : Bucks tab hd ob bk) (he : ∀ i, In i → ob' i = ob i) : Bucks tab hd ob' bk := h.congr (fun a ha => by rw [he a ha]) (fun _ _ _ => ⟨rfl, rfl⟩)

/-- Rows and buckets alone: what holds in the midst of a Commit or an Abort. -/
structure Mid (w : World) (s d : Nat) (D : Nat → Nat) (ob : Nat → Ob) (rt : Nat) : Prop where
  ex : ∃ tab hd us nf bk, SAt w s d tab hd us nf rt ∧ Rows D tab us nf ob ∧ Bucks tab hd ob bk
theorem Mid.ext {ob' : Nat → Ob} (h : Mid w s d D ob rt) (he : ∀ i, In i → ob' i = ob i) : Mid w s d D ob' rt := by
  obtain ⟨tab, hd, us, nf, bk, hs, hr, hb⟩ := h.ex
  exact ⟨tab, hd, us, nf, bk, hs, hr.ext he, hb.ext he⟩
theorem Mid.keep {S : Nat → Prop} {w' : World} (h : Mid w s d D ob rt) (ho : Only S w w') (h1 : ¬ S s) : Mid w' s d D ob rt := by
  obtain ⟨tab, hd, us, nf, bk, hs, hr, hb⟩ := h.ex
  exact ⟨tab, hd, us, nf, bk, hs.keep ho h1, hr, hb⟩

set_option maxRecDepth 100000 in
set_option maxHeartbeats 2000000 in
theorem abort_any (h : OS w s d D B recs ob rt F) :
    Calls Tryz.prog 152 #[.pointer (some ⟨s, 0, none⟩)] w fun e w' => e = .returned (.tuple #[]) ∧ OS w' s d D B recs (fun i => abortO (ob i)) rt F ∧ Only (fun k => k = s) w w' := by
  obtain ⟨⟨tab, hd, us, nf, bk, hs, hi⟩, hv, hf⟩ := h
  have Hi := hide hi
  have Hv := hide hv
  have hM0 : Mid w s d D (upTo abortO ob 1) rt := Mid.ext ⟨tab, hd, us, nf, bk, hs, hi.rows, hi.bucks⟩ (fun i hin => by
    unfold upTo
    have h1 : 1 ≤ i := hin.1
    rw [if_neg (by omega)])
  have HM0 := hide hM0
  clear hi hM0 hs hv
  go_enter Tryz.func152, Tryz.ntmps152
  go_wp2_with fail
  go_loopw [2] (fun kv wr => ∃ k : Nat, 1 ≤ k ∧ k ≤ 49 ∧ kv = .int .i64 k ∧ Mid wr s d D (upTo abortO ob k) rt ∧ Only (fun k => k = s) w wr) (fun kv _ => (49 - intOf kv).toNat)
  case atStart => exact ⟨1, by omega, by omega, rfl, unhide HM0, Only.refl _ _⟩
  case round =>
    clear HM0
    obtain ⟨k, hk1, hk, rfl, hM, ho⟩ := hrel
    by_cases hk8 : k < 49
    · have hin : In k := ⟨hk1, by omega⟩
      have a1 : decide ((k : Int) ≤ 48) = true := by simp; omega
      have a2 : (k : Int) < 49 := by omega
      have hv1 := (unhide Hv).keep ho (fun y hy e => hf (e ▸ hy))
      obtain ⟨tab, hd, us, nf, bk, hs, hR, hB⟩ := hM.ex
      have hat := upTo_at abortO ob k
      have hsu := upTo_succ abortO ob k
      have c0 := hs.state k hk8
      rw [hR.st k hin, hat] at c0
      have hle := hR.le3 k hin
      rw [hat] at hle
      by_cases e1 : (ob k).st = 1
      · have ea : abortO (ob k) = Ob.free := by unfold abortO; rw [if_pos e1]
        rw [ea] at hsu
        have hlv : liveO (upTo abortO ob k k) = true := by rw [hat]; unfold liveO; rw [e1]; rfl
        have hH := hR.held k hin (liveO_ne hlv)
        obtain ⟨p, hp, hip⟩ := hB.at_ hin hlv
        have hb8 : (tab k).hash % 8 < 8 := Nat.mod_lt _ (by omega)
        have C2 := hide (unhang_any hs k hk8 hH.hlt (bk ((tab k).hash % 8)) p (hB.link _ hb8) hp hip)
        have Hsu := hide hsu
        rw [e1] at c0
        have HB := hide hB
        have HR := hide hR
        clear hsu hM hs hB hR
        go_wp2_with fail
        refine (unhide C2).mono ?_
        rintro e w2 ⟨rfl, ⟨tab', hd', hs2, hU⟩, ho2⟩
        have hR2 := hU.rows (unhide HR) (fun a ha _ => (((unhide HB).mem _ hb8 a).1 ha).2.1)
        have hv2 := hv1.keep ho2 (fun y hy e => hf (e ▸ hy))
        have hH2 := hR2.held k hin (liveO_ne hlv)
        have hnf : nf < 1000 := by rw [hR2.nfree]; have := cntF_le (upTo abortO ob k); omega
        have C3 := hide (release_any hs2 hv2 hf hH2.lies hR2.words k hk8 hH2.first hnf)
        have hr3 := hR2.release hin (liveO_ne hlv)
        have hb3 : Bucks (updT tab' k Ent.zero) hd' (updT (upTo abortO ob k) k Ob.free) (updT bk ((tab k).hash % 8) ((bk ((tab k).hash % 8)).eraseIdx p)) :=
          (unhide HB).unhang hb8 hp hip hU (by rw [updT_same]; rfl) (fun j hj => updT_other _ _ _ _ hj) (fun j hj => by rw [updT_other _ _ _ _ hj]; exact ⟨rfl, rfl⟩)
        have HR3 := hide hr3
        have HB3 := hide hb3
        clear hr3 hb3 hU hR2 hs2 hH2
        go_wp2_with fail
        refine (unhide C3).mono ?_
        rintro e w3 ⟨rfl, hs3, ho3⟩
        go_wp2_with fail
        go_roundw
        case rel => exact ⟨k + 1, by omega, by omega, by go_num, by rw [unhide Hsu]; exact ⟨_, _, _, _, _, hs3, unhide HR3, unhide HB3⟩, (ho.trans ho2 (fun _ _ h => h)).trans ho3 (fun _ _ h => h)⟩
        case measure => simp [intOf]; omega
      · by_cases e3 : (ob k).st = 3
        · have ea : abortO (ob k) = { ob k with st := 2 } := by unfold abortO setSt; rw [if_neg e1, if_pos e3]
          rw [ea] at hsu
          have hne : (upTo abortO ob k k).st ≠ 0 := by rw [hat, e3]; omega
          have hH := hR.held k hin hne
          rw [e3] at c0
          have hs1 := hs.setState k hk8 2
          have hr1 := hR.setState hin hne 2 (by omega) (by omega)
          rw [hat] at hr1
          have ho1 : Only (fun k => k = s) wr (wr.setCell ⟨s, 1 + k * 6, none⟩ (.int .i64 ((2 : Nat) : Int))) := only1 (p := s) (1 + k * 6) _
          have C2 := hide (hang_any hs1 k hk8 (by rw [updT_same]; exact hH.hlt))
          have hr2 : Rows D (setNext (updT tab k { tab k with state := 2 }) k (hd ((updT tab k { tab k with state := 2 } k).hash % 8))) us nf (updT (upTo abortO ob k) k { ob k with st := 2 }) := by
            refine hr1.next ((NextOnly.refl _).setNext _ _) (fun j hj h0 => setNext_other (fun e => ?_))
            subst e; rw [updT_same] at h0; simp at h0
          have hb2 : Bucks (setNext (updT tab k { tab k with state := 2 }) k (hd ((updT tab k { tab k with state := 2 } k).hash % 8))) (updT hd ((updT tab k { tab k with state := 2 } k).hash % 8) k) (updT (upTo abortO ob k) k { ob k with st := 2 }) (updT bk ((updT tab k { tab k with state := 2 } k).hash % 8) (k :: bk ((updT tab k { tab k with state := 2 } k).hash % 8))) := by
            refine hB.hang hin (Nat.mod_lt _ (by omega)) (by rw [hat]; unfold liveO; rw [e3]; rfl) (by rw [updT_same]; rfl) (fun j hj => updT_other _ _ _ _ hj) (fun j hj => by rw [setNext_other hj, updT_other _ _ _ _ hj]) setNext_same ?_
            unfold setNext
            rw [updT_same]
          have HR2 := hide hr2
          have HB2 := hide hb2
          have Hsu := hide hsu
          clear hr2 hb2 hr1 hsu hM hs hB hR hs1 hH
          go_wp2_with fail
          refine (unhide C2).mono ?_
          rintro e w3 ⟨rfl, hs3, ho3⟩
          go_wp2_with fail
          go_roundw
          case rel => exact ⟨k + 1, by omega, by omega, by go_num, by rw [unhide Hsu]; exact ⟨_, _, _, _, _, hs3, unhide HR2, unhide HB2⟩, (ho.trans ho1 (fun _ _ h => h)).trans ho3 (fun _ _ h => h)⟩
          case measure => simp [intOf]; omega
        · have ea : abortO (ob k) = ob k := by unfold abortO; rw [if_neg e1, if_neg e3]
          rw [ea] at hsu
          have hsame : upTo abortO ob (k + 1) = upTo abortO ob k := by
            rw [hsu]
            have := updT_self (upTo abortO ob k) k
            rw [hat] at this
            exact this
          rw [← hsame] at hM
          have HM := hide hM
          clear hM hsame hsu hR hB hs ea hat
          generalize (ob k).st = st at *
          have b1 : ((st : Int) == 1) = false := ne_intO (by omega)
          have b3 : ((st : Int) == 3) = false := ne_intO (by omega)
          go_wp2_with fail
          go_roundw
          case rel => exact ⟨k + 1, by omega, by omega, by go_num, unhide HM, ho⟩
          case measure => simp [intOf]; omega
    · obtain rfl : k = 49 := by omega
      have hM' : Mid wr s d D (fun i => abortO (ob i)) rt := hM.ext (fun i hin => by
        unfold upTo
        have h2 : i ≤ 48 := hin.2
        rw [if_pos (by omega)])
      obtain ⟨tab, hd, us, nf, bk, hs, hR, hB⟩ := hM'.ex
      have hle := (unhide Hi).rows.le3
      have hfin : SInv D tab hd us nf rt (fun i => abortO (ob i)) bk := by
        refine ⟨hR, hB, (unhide Hi).super.congr ?_ ?_, (unhide Hi).twp.sub ?_, (unhide Hi).twp.sub ?_⟩
        · intro j hj; exact (abort_last _ (hle j hj)).1
        · intro j hj h1; exact (abort_keep _ h1).1
        · intro j hj h1
          rw [(abort_last _ (hle j hj)).2] at h1
          exact ⟨h1, (abort_keep _ h1).2⟩
        · intro j hj h1
          rw [(abort_last _ (hle j hj)).1] at h1
          exact ⟨h1, (abort_keep _ h1).2⟩
      have Hfin := hide hfin
      clear hfin hM' hM hR hB hle
      go_wp2_with fail
      go_end0
      exact ⟨rfl, ⟨⟨_, _, _, _, _, hs, unhide Hfin⟩, (unhide Hv).keep ho (fun y hy e => hf (e ▸ hy)), hf⟩, ho⟩
end
end Go.Proofs.Qxb6500417aGreat
