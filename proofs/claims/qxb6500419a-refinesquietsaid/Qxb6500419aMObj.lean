/-
  OWN WORK. THE OBJECT MODEL: its memory; CopyBytes, live, same, Free, Root, Steps.
-/
import Derived.Test.Qxb6500419aOOps
import Derived.Laws.CopyRow
import Derived.Laws.IdiomCopy
namespace Go.Proofs.Qxb6500419a
open Go.RowKit
set_option linter.unusedSimpArgs false
set_option linter.unusedVariables false

theorem setRow_allocO (w : World) (c d : Array Value) (t : TypeId) : (w.alloc (.cells c t)).setRow w.heap.size d = w.alloc (.cells d t) := by
  unfold World.setRow World.alloc
  congr 1
  apply Array.ext_getElem?
  intro k
  simp only [Array.getElem?_modify, Array.getElem?_push]
  by_cases hk : k = w.heap.size
  · subst hk; simp
  · simp [hk]; intro h; omega
theorem Try.sizeU8o : (Try.prog.info? 5).map (·.size) = some 1 := by
  obtain ⟨i, hi, hz, hs, hb⟩ := info_parts Try.infoU8o
  rw [hi]; simp [hs]
theorem run_copy_bytes (w : World) (n : Nat) (a : Option Addr) (cap : Nat) (x : Nat → Nat) (h : BytesAt w (.slice a n cap) n x) (ty : TypeId) :
    (Builtin.copy_ #[47, 47] ty #[.slice (some ⟨w.heap.size, 0, none⟩) n n, .slice a n cap]).run Try.prog (w.alloc (.cells (tabV n (u8f (fun _ => 0))) 5)) = .ok (goInt n) (w.alloc (.cells (tabV n (u8f x)) 5)) := by
  by_cases hn : n = 0
  · subst hn
    rw [run_copy_none (P := Try.prog) _ 47 47 ty 5 _ _ 0 0 0 cap Try.underlying47 Try.sizeU8o (by simp)]
    rfl
  · obtain ⟨a', cap', e, h2⟩ := h
    obtain ⟨rfl, _, rfl⟩ : a = a' ∧ n = n ∧ cap = cap' := by simpa using e
    obtain ⟨g, rfl, hc⟩ := h2 (by omega)
    have h := run_copy_row (P := Try.prog) (w.alloc (.cells (tabV n (u8f (fun _ => 0))) 5)) 47 47 ty 5 w.heap.size 0 n n ⟨g, 0, none⟩ n cap (tabV n (u8f (fun _ => 0))) 5 ((List.range n).map (u8f x))
      Try.underlying47 Try.sizeU8o (heap_alloc_new w _) (by simp) ?_ (by simp [tabV]) ?_
    · rw [h, setRow_allocO]
      have e1 : ((List.range n).map (u8f x)).length = n := by simp
      rw [e1]
      congr 3
      simp [tabV]
    · intro j v hv
      have hj : j < n := by
        by_cases hj : j < n
        · exact hj
        · rw [List.getElem?_eq_none (by simp; omega)] at hv; cases hv
      rw [addr_add]
      have hgl : g < w.heap.size := World.block_lt_of_cell? w _ (hc j hj)
      have e2 : (w.alloc (.cells (tabV n (u8f (fun _ => 0))) 5)).cell? ⟨g, j, none⟩ = w.cell? ⟨g, j, none⟩ := World.cell?_of_block (Below.heap_alloc _ _ _ hgl)
      rw [e2, hc j hj]
      simp [hj] at hv
      rw [← hv]; rfl
    · intro v hv
      simp at hv
      obtain ⟨b, _, rfl⟩ := hv
      rfl
set_option maxRecDepth 100000 in
theorem copyBytes_any {w : World} (v : Value) (n : Nat) (x : Nat → Nat) (h : BytesAt w v n x) (hn : n ≤ 1000000) :
    Calls Try.prog 48 #[v] w fun e w' => e = .returned (.slice (some ⟨w.heap.size, 0, none⟩) n n) ∧ w' = w.alloc (.cells (tabV n (u8f x)) 5) := by
  have h0 := h
  obtain ⟨a, cap, rfl, h2⟩ := h
  have hmk := run_make_bytes w n hn
  have hcp := run_copy_bytes w n a cap x h0
  go_enter Try.func48, Try.ntmps48
  go_wp2
  go_ret
  exact ⟨rfl, rfl⟩

structure MS where
  st : Nat
  kd : Nat
  v : Value
def msCell (e : MS) : Nat → Value
  | 0 => .int .i64 (e.st : Int)
  | 1 => .int .i64 (e.kd : Int)
  | _ => e.v
def MS.zero : MS := ⟨0, 0, .slice none 0 0⟩
def mcell (sl : Nat → MS) (rt : Nat) (base hist : Value) (off : Nat) : Value :=
  if off < 147 then msCell (sl (off / 3)) (off % 3) else if off = 147 then .int .i64 (rt : Int) else if off = 148 then base else hist
def MM (w : World) (m : Nat) (sl : Nat → MS) (rt : Nat) (base hist : Value) : Prop := Has w m (tabV 150 (mcell sl rt base hist)) 53

section
variable {w : World} {m : Nat} {sl : Nat → MS} {rt : Nat} {base hist : Value}
theorem MM.keep {S : Nat → Prop} {w' : World} (h : MM w m sl rt base hist) (ho : Only S w w') (hS : ¬ S m) : MM w' m sl rt base hist := Has.keep h ho hS
theorem mcell_slot (i f : Nat) (hi : i < 49) (hf : f < 3) : mcell sl rt base hist (i * 3 + f) = msCell (sl i) f := by
  unfold mcell
  rw [if_pos (by omega)]
  have e1 : (i * 3 + f) / 3 = i := by omega
  have e2 : (i * 3 + f) % 3 = f := by omega
  rw [e1, e2]
theorem MM.slot (h : MM w m sl rt base hist) (i f : Nat) (hi : i < 49) (hf : f < 3) : w.cell? ⟨m, i * 3 + f, none⟩ = some (msCell (sl i) f) ∧ w.frozen? ⟨m, i * 3 + f, none⟩ = false := by
  refine ⟨?_, Has.free h _⟩
  rw [Has.cell h, tabV_get _ _ _ (by omega), mcell_slot i f hi hf]
theorem MM.state (h : MM w m sl rt base hist) (i : Nat) (hi : i < 49) : w.cell? ⟨m, i * 3, none⟩ = some (.int .i64 ((sl i).st : Int)) ∧ w.frozen? ⟨m, i * 3, none⟩ = false := h.slot i 0 hi (by omega)
theorem MM.root (h : MM w m sl rt base hist) : w.cell? ⟨m, 147, none⟩ = some (.int .i64 (rt : Int)) ∧ w.frozen? ⟨m, 147, none⟩ = false := by
  refine ⟨?_, Has.free h _⟩
  rw [Has.cell h, tabV_get _ _ _ (by omega)]; rfl
theorem MM.base_ (h : MM w m sl rt base hist) : w.cell? ⟨m, 148, none⟩ = some base ∧ w.frozen? ⟨m, 148, none⟩ = false := by
  refine ⟨?_, Has.free h _⟩
  rw [Has.cell h, tabV_get _ _ _ (by omega)]; rfl
theorem MM.hist_ (h : MM w m sl rt base hist) : w.cell? ⟨m, 149, none⟩ = some hist ∧ w.frozen? ⟨m, 149, none⟩ = false := by
  refine ⟨?_, Has.free h _⟩
  rw [Has.cell h, tabV_get _ _ _ (by omega)]; rfl
theorem mcell_eq {sl sl' : Nat → MS} {rt rt' : Nat} {b b' hi hi' : Value} (j : Nat) (hj : j < 150) (h1 : ∀ a b, a < 49 → b < 3 → j = a * 3 + b → msCell (sl a) b = msCell (sl' a) b) (h2 : j = 147 → rt = rt') (h3 : j = 148 → b = b') (h4 : j = 149 → hi = hi') : mcell sl rt b hi j = mcell sl' rt' b' hi' j := by
  unfold mcell
  by_cases e : j < 147
  · rw [if_pos e, if_pos e]
    exact h1 (j / 3) (j % 3) (by omega) (by omega) (by omega)
  · rw [if_neg e, if_neg e]
    by_cases e1 : j = 147
    · rw [if_pos e1, if_pos e1, h2 e1]
    · rw [if_neg e1, if_neg e1]
      by_cases e2 : j = 148
      · rw [if_pos e2, if_pos e2, h3 e2]
      · rw [if_neg e2, if_neg e2, h4 (by omega)]
theorem MM.putSlot (h : MM w m sl rt base hist) (i : Nat) (hi : i < 49) (e : MS) :
    MM (((w.setCell ⟨m, i * 3, none⟩ (.int .i64 (e.st : Int))).setCell ⟨m, i * 3 + 1, none⟩ (.int .i64 (e.kd : Int))).setCell ⟨m, i * 3 + 2, none⟩ e.v) m (updT sl i e) rt base hist := by
  have := ((Has.setCell h (i * 3) (.int .i64 (e.st : Int))).setCell (i * 3 + 1) (.int .i64 (e.kd : Int))).setCell (i * 3 + 2) e.v
  simp only [tabV_set] at this
  unfold MM
  rw [tabV_congr 150 (g := mcell (updT sl i e) rt base hist)] at this
  · exact this
  · intro j hj
    by_cases e2 : j = i * 3 + 2
    · subst e2; rw [if_pos rfl, mcell_slot i 2 hi (by omega), updT_same]; rfl
    · rw [if_neg e2]
      by_cases e1 : j = i * 3 + 1
      · subst e1; rw [if_pos rfl, mcell_slot i 1 hi (by omega), updT_same]; rfl
      · rw [if_neg e1]
        by_cases e0 : j = i * 3
        · subst e0; rw [if_pos rfl]
          have := mcell_slot (sl := updT sl i e) (rt := rt) (base := base) (hist := hist) i 0 hi (by omega)
          rw [Nat.add_zero] at this
          rw [this, updT_same]; rfl
        · rw [if_neg e0]
          refine mcell_eq j hj (fun a b ha hb hab => ?_) (fun _ => rfl) (fun _ => rfl) (fun _ => rfl)
          rw [updT_other _ _ _ _ (by intro e; subst e; omega)]
theorem MM.setState (h : MM w m sl rt base hist) (i : Nat) (hi : i < 49) (x : Nat) : MM (w.setCell ⟨m, i * 3, none⟩ (.int .i64 (x : Int))) m (updT sl i { sl i with st := x }) rt base hist := by
  have := Has.setCell h (i * 3) (.int .i64 (x : Int))
  rw [tabV_set] at this
  unfold MM
  rw [tabV_congr 150 (g := mcell (updT sl i { sl i with st := x }) rt base hist)] at this
  · exact this
  · intro j hj
    by_cases e0 : j = i * 3
    · subst e0; rw [if_pos rfl]
      have := mcell_slot (sl := updT sl i { sl i with st := x }) (rt := rt) (base := base) (hist := hist) i 0 hi (by omega)
      rw [Nat.add_zero] at this
      rw [this, updT_same]; rfl
    · rw [if_neg e0]
      refine mcell_eq j hj (fun a b ha hb hab => ?_) (fun _ => rfl) (fun _ => rfl) (fun _ => rfl)
      by_cases ea : a = i
      · subst ea; rw [updT_same]
        match b, hb with
        | 0, _ => omega
        | 1, _ => rfl
        | 2, _ => rfl
      · rw [updT_other _ _ _ _ ea]
theorem MM.setRoot (h : MM w m sl rt base hist) (x : Nat) : MM (w.setCell ⟨m, 147, none⟩ (.int .i64 (x : Int))) m sl x base hist := by
  have := Has.setCell h 147 (.int .i64 (x : Int))
  rw [tabV_set] at this
  unfold MM
  rw [tabV_congr 150 (g := mcell sl x base hist)] at this
  · exact this
  · intro j hj
    by_cases e : j = 147
    · subst e; rfl
    · rw [if_neg e]; exact mcell_eq j hj (fun _ _ _ _ _ => rfl) (fun h => absurd h e) (fun _ => rfl) (fun _ => rfl)
theorem MM.setBase (h : MM w m sl rt base hist) (x : Value) : MM (w.setCell ⟨m, 148, none⟩ x) m sl rt x hist := by
  have := Has.setCell h 148 x
  rw [tabV_set] at this
  unfold MM
  rw [tabV_congr 150 (g := mcell sl rt x hist)] at this
  · exact this
  · intro j hj
    by_cases e : j = 148
    · subst e; rfl
    · rw [if_neg e]; exact mcell_eq j hj (fun _ _ _ _ _ => rfl) (fun _ => rfl) (fun h => absurd h e) (fun _ => rfl)
theorem MM.setHist (h : MM w m sl rt base hist) (x : Value) : MM (w.setCell ⟨m, 149, none⟩ x) m sl rt base x := by
  have := Has.setCell h 149 x
  rw [tabV_set] at this
  unfold MM
  rw [tabV_congr 150 (g := mcell sl rt base x)] at this
  · exact this
  · intro j hj
    by_cases e : j = 149
    · subst e; rfl
    · rw [if_neg e]; exact mcell_eq j hj (fun _ _ _ _ _ => rfl) (fun _ => rfl) (fun _ => rfl) (fun h => absurd h e)
end

/-- The model m shows the table ob and the root rt; H: its blocks. -/
structure MAt (w : World) (m : Nat) (ob : Nat → Ob) (rt : Nat) (hist : Value) (H : Nat → Prop) : Prop where
  ex : ∃ sl base, MM w m sl rt base hist ∧ ∀ i, In i → (sl i).st = (ob i).st ∧ (sl i).kd = (ob i).kd ∧ (ob i).dat.length ≤ 180 ∧ BytesAt w (sl i).v (ob i).dat.length (dF (ob i).dat) ∧ ∀ g, (sl i).v.ownBlock = some g → H g ∧ g ≠ m
  own : H m
  inn : ∀ k, H k → k < w.heap.size

section
variable {w : World} {m : Nat} {ob : Nat → Ob} {rt : Nat} {hist : Value} {H : Nat → Prop}
theorem MAt.keep {S : Nat → Prop} {w' : World} (h : MAt w m ob rt hist H) (ho : Only S w w') (hS : ∀ k, H k → ¬ S k) : MAt w' m ob rt hist H := by
  obtain ⟨⟨sl, base, hm, hi⟩, ho1, hn⟩ := h
  exact ⟨⟨sl, base, hm.keep ho (hS m ho1), fun i hin => by
    obtain ⟨a, b, c, d, e⟩ := hi i hin
    exact ⟨a, b, c, d.keep ho (fun k hk => hS k (e k hk).1), e⟩⟩, ho1, fun k hk => Nat.lt_of_lt_of_le (hn k hk) ho.size⟩
theorem MAt.quiet {w' : World} (h : MAt w m ob rt hist H) (ho : Only (fun _ => False) w w') : MAt w' m ob rt hist H := h.keep ho (fun _ _ h => h)
theorem MAt.ext {ob' : Nat → Ob} (h : MAt w m ob rt hist H) (he : ∀ i, In i → (ob' i).st = (ob i).st ∧ (ob' i).kd = (ob i).kd ∧ (ob' i).dat = (ob i).dat) : MAt w m ob' rt hist H := by
  obtain ⟨⟨sl, base, hm, hi⟩, ho1, hn⟩ := h
  exact ⟨⟨sl, base, hm, fun i hin => by
    obtain ⟨e1, e2, e3⟩ := he i hin
    rw [e1, e2, e3]
    exact hi i hin⟩, ho1, hn⟩
theorem MAt.mono {G : Nat → Prop} (h : MAt w m ob rt hist H) (hG : ∀ k, H k → G k) (hi' : ∀ k, G k → k < w.heap.size) : MAt w m ob rt hist G := by
  obtain ⟨⟨sl, base, hm, hi⟩, ho1, hn⟩ := h
  exact ⟨⟨sl, base, hm, fun i hin => by
    obtain ⟨a, b, c, d, e⟩ := hi i hin
    exact ⟨a, b, c, d, fun g hg => ⟨hG g (e g hg).1, (e g hg).2⟩⟩⟩, hG m ho1, hi'⟩

theorem mroot_any (h : MAt w m ob rt hist H) :
    Calls Try.prog 61 #[.pointer (some ⟨m, 0, none⟩)] w fun e w' => e = .returned (.int .i64 (rt : Int)) ∧ w = w' := by
  obtain ⟨⟨sl, base, hm, hi⟩, ho1, hn⟩ := h
  have c := hm.root.1
  go_enter Try.func61, Try.ntmps61
  go_wp2
  go_ret
  exact ⟨rfl, rfl⟩
theorem msteps_any {a : Option Addr} {n cap : Nat} (h : MAt w m ob rt (.slice a n cap) H) :
    Calls Try.prog 36 #[.pointer (some ⟨m, 0, none⟩)] w fun e w' => e = .returned (.int .i64 (n : Int)) ∧ w = w' := by
  obtain ⟨⟨sl, base, hm, hi⟩, ho1, hn⟩ := h
  have c := hm.hist_.1
  go_enter Try.func36, Try.ntmps36
  go_wp2
  go_ret
  exact ⟨rfl, rfl⟩
theorem mlive_any (h : MAt w m ob rt hist H) (id : Int) :
    Calls Try.prog 77 #[.pointer (some ⟨m, 0, none⟩), .int .i64 id] w fun e w' => e = .returned (.bool (liveI ob id)) ∧ w = w' := by
  obtain ⟨⟨sl, base, hm, hi⟩, ho1, hn⟩ := h
  by_cases h1 : 1 ≤ id
  · by_cases h2 : id ≤ 48
    · obtain ⟨i, rfl⟩ : ∃ i : Nat, id = i := ⟨id.toNat, by omega⟩
      have hin : In i := ⟨by omega, by omega⟩
      rw [liveI_nat ob i hin]
      have c := (hm.state i (by omega)).1
      rw [(hi i hin).1] at c
      have a1 : decide (1 ≤ (i : Int)) = true := by simp; omega
      have a2 : decide ((i : Int) ≤ 48) = true := by simp; omega
      have a3 : (i : Int) < 49 := by omega
      unfold liveO
      generalize (ob i).st = st at *
      by_cases e1 : st = 1
      · subst e1
        go_enter Try.func77, Try.ntmps77
        go_wp2_with fail
        go_ret
        exact ⟨rfl, rfl⟩
      · have b1 : ((st : Int) == 1) = false := ne_intO (by omega)
        by_cases e2 : st = 2
        · subst e2
          go_enter Try.func77, Try.ntmps77
          go_wp2_with fail
          go_ret
          exact ⟨rfl, rfl⟩
        · have b2 : ((st : Int) == 2) = false := ne_intO (by omega)
          have b3 : (st == 1 || st == 2) = false := by simp [e1, e2]
          rw [b3]
          go_enter Try.func77, Try.ntmps77
          go_wp2_with fail
          go_ret
          exact ⟨by first | exact rfl | simp, rfl⟩
    · rw [liveI_out ob id (by omega)]
      have a1 : decide (1 ≤ id) = true := by simpa using h1
      have a2 : decide (id ≤ 48) = false := by simpa using h2
      go_enter Try.func77, Try.ntmps77
      go_wp2_with fail
      go_ret
      exact ⟨rfl, rfl⟩
  · rw [liveI_out ob id (by omega)]
    have a1 : decide (1 ≤ id) = false := by simpa using h1
    go_enter Try.func77, Try.ntmps77
    go_wp2_with fail
    go_ret
    exact ⟨rfl, rfl⟩

set_option maxRecDepth 100000 in
theorem mfree_any (h : MAt w m ob rt hist H) :
    Calls Try.prog 16 #[.pointer (some ⟨m, 0, none⟩)] w fun e w' => e = .returned (.int .i64 (cntF ob : Nat)) ∧ w = w' := by
  obtain ⟨⟨sl, base, hm, hi⟩, ho1, hn⟩ := h
  have Hi := hide hi
  clear hi
  go_enter Try.func16, Try.ntmps16
  go_wp2_with fail
  go_loop [3, 4] (fun nv kv => ∃ k : Nat, 1 ≤ k ∧ k ≤ 49 ∧ kv = .int .i64 k ∧ nv = .int .i64 (cntTo (isFree ob) k : Nat)) (fun _ kv => (49 - intOf kv).toNat)
  case atStart => exact ⟨1, by omega, by omega, rfl, rfl⟩
  case round =>
    obtain ⟨k, hk1, hk, rfl, rfl⟩ := hrel
    by_cases hk8 : k < 49
    · have hin : In k := ⟨hk1, by omega⟩
      have c := (hm.state k hk8).1
      rw [((unhide Hi) k hin).1] at c
      have a1 : decide ((k : Int) ≤ 48) = true := by simp; omega
      have a2 : (k : Int) < 49 := by omega
      have hC : cntTo (isFree ob) (k + 1) = cntTo (isFree ob) k + (if isFree ob k = true then 1 else 0) := rfl
      have hk0 : (k != 0) = true := by simp; omega
      have hle := cntTo_le (isFree ob) k
      have hF : isFree ob k = ((ob k).st == 0) := by unfold isFree; rw [hk0]; simp
      rw [hF] at hC
      have HC := hide hC
      clear hC hF
      generalize cntTo (isFree ob) k = cf at *
      generalize (ob k).st = st at *
      by_cases e0 : st = 0
      · subst e0
        go_wp2_with fail
        go_round
        case rel => exact ⟨k + 1, by omega, by omega, by go_num, by rw [unhide HC]; simp⟩
        case measure => simp [intOf]; omega
      · have b0 : ((st : Int) == 0) = false := ne_intO (by omega)
        go_wp2_with fail
        go_round
        case rel => exact ⟨k + 1, by omega, by omega, by go_num, by rw [unhide HC]; simp [e0]⟩
        case measure => simp [intOf]; omega
    · obtain rfl : k = 49 := by omega
      go_wp2_with fail
      go_ret
      exact ⟨rfl, rfl⟩
end

set_option maxRecDepth 100000 in
set_option maxHeartbeats 1000000 in
theorem msame_any {w : World} (v u : Value) (x y : List Nat) (hx : BytesAt w v x.length (dF x)) (hy : BytesAt w u y.length (dF y)) (hlen : x.length ≤ 4611686018427387904) :
    Calls Try.prog 78 #[v, u] w fun e w' => e = .returned (.bool (decide (x = y))) ∧ Only (fun _ => False) w w' := by
  obtain ⟨va, vc, rfl, hxc⟩ := hx
  obtain ⟨ua, uc, rfl, hyc⟩ := hy
  by_cases hl : x.length = y.length
  · have hext := fun (h : ∀ j, j < x.length → dF x j = dF y j) => dF_ext hl h
    have Hext := hide hext
    rw [← hl] at hyc ⊢
    clear hext
    generalize hnx : x.length = n at *
    have n1 : ((n : Int) != (n : Int)) = false := by simp
    have Hnx := hide hnx
    clear hnx
    go_enter Try.func78, Try.ntmps78
    go_wp2_with fail
    go_loopw [5] (fun iv wr => ∃ i : Nat, i ≤ n ∧ iv = .int .i64 i ∧ (∀ j, j < i → dF x j = dF y j) ∧ Only (fun _ => False) w wr) (fun iv _ => n - (intOf iv).toNat)
    case atStart => exact ⟨0, by omega, rfl, fun j hj => by omega, Only.refl _ _⟩
    case round =>
      obtain ⟨i, hi, rfl, ha, ho⟩ := hrel
      have Ha := hide ha
      clear ha
      by_cases hin : i < n
      · obtain ⟨gx, rfl, hcx⟩ := hxc (by omega)
        obtain ⟨gy, rfl, hcy⟩ := hyc (by omega)
        have gxl : gx < w.heap.size := World.block_lt_of_cell? w _ (hcx 0 (by omega))
        have gyl : gy < w.heap.size := World.block_lt_of_cell? w _ (hcy 0 (by omega))
        have q1 : wr.cell? ⟨gx, i, none⟩ = some (.int .u8 (dF x i : Int)) := by rw [World.cell?_of_block (ho.block gx gxl (fun h => h))]; exact hcx i hin
        have q2 : wr.cell? ⟨gy, i, none⟩ = some (.int .u8 (dF y i : Int)) := by rw [World.cell?_of_block (ho.block gy gyl (fun h => h))]; exact hcy i hin
        have a1 : decide ((i : Int) < (n : Int)) = true := by simp; omega
        have a2 : (i : Int) < (n : Int) := by omega
        generalize hxx : dF x i = xx at *
        generalize hyy : dF y i = yy at *
        have Hx := hide hxx
        have Hy := hide hyy
        clear hxx hyy hcx hcy hxc hyc
        by_cases hxy : xx = yy
        · subst hxy
          have b1 : ((xx : Int) != (xx : Int)) = false := by simp
          go_wp2_with fail
          go_quiet (fail)
          go_wp2_with fail
          go_roundw
          case rel =>
            refine ⟨i + 1, by omega, by go_num, fun j hj => ?_, ho.drewO _⟩
            by_cases e : j = i
            · subst e; rw [unhide Hx, unhide Hy]
            · exact unhide Ha j (by omega)
          case measure => simp [intOf]; omega
        · have b1 : ((xx : Int) != (yy : Int)) = true := by simp; omega
          have hne : decide (x = y) = false := by
            simp
            intro e
            have h1 := unhide Hx
            rw [e, unhide Hy] at h1
            exact hxy h1.symm
          have Hne := hide hne
          clear hne
          go_wp2_with fail
          go_quiet (fail)
          go_wp2_with fail
          go_ret
          rw [unhide Hne]
          exact ⟨rfl, ho.drewO _⟩
      · obtain rfl : i = n := by omega
        have heq : decide (x = y) = true := by simpa using (unhide Hext) (unhide Ha)
        have Heq := hide heq
        have a1 : decide ((i : Int) < (i : Int)) = false := by simp
        have a1' : ¬ i < i := by omega
        clear heq
        go_wp2_with fail
        go_ret
        rw [unhide Heq]
        exact ⟨rfl, ho⟩
  · have hne : decide (x = y) = false := by
      simp
      intro e; rw [e] at hl; exact hl rfl
    rw [hne]
    generalize x.length = n at *
    generalize y.length = k at *
    have n1 : ((n : Int) != (k : Int)) = true := by simp; omega
    go_enter Try.func78, Try.ntmps78
    go_wp2_with fail
    go_ret
    exact ⟨rfl, Only.refl _ _⟩
set_option maxRecDepth 100000 in
set_option maxHeartbeats 1000000 in
theorem lsame_any {w : World} (v u : Value) (x y : List Nat) (hx : BytesAt w v x.length (dF x)) (hy : BytesAt w u y.length (dF y)) (hlen : x.length ≤ 9223372036854775807) :
    Calls Try.prog 51 #[v, u] w fun e w' => e = .returned (.bool (decide (x = y))) ∧ Only (fun _ => False) w w' := by
  obtain ⟨va, vc, rfl, hxc⟩ := hx
  obtain ⟨ua, uc, rfl, hyc⟩ := hy
  by_cases hl : x.length = y.length
  · have hext := fun (h : ∀ j, j < x.length → dF x j = dF y j) => dF_ext hl h
    have Hext := hide hext
    rw [← hl] at hyc ⊢
    clear hext
    generalize hnx : x.length = n at *
    have n1 : ((n : Int) != (n : Int)) = false := by simp
    have Hnx := hide hnx
    clear hnx
    go_enter Try.func51, Try.ntmps51
    go_wp2_with fail
    go_loopw [5] (fun iv wr => ∃ i : Nat, i ≤ n ∧ iv = .int .i64 i ∧ (∀ j, j < i → dF x j = dF y j) ∧ Only (fun _ => False) w wr) (fun iv _ => n - (intOf iv).toNat)
    case atStart => exact ⟨0, by omega, rfl, fun j hj => by omega, Only.refl _ _⟩
    case round =>
      obtain ⟨i, hi, rfl, ha, ho⟩ := hrel
      have Ha := hide ha
      clear ha
      by_cases hin : i < n
      · obtain ⟨gx, rfl, hcx⟩ := hxc (by omega)
        obtain ⟨gy, rfl, hcy⟩ := hyc (by omega)
        have gxl : gx < w.heap.size := World.block_lt_of_cell? w _ (hcx 0 (by omega))
        have gyl : gy < w.heap.size := World.block_lt_of_cell? w _ (hcy 0 (by omega))
        have q1 : wr.cell? ⟨gx, i, none⟩ = some (.int .u8 (dF x i : Int)) := by rw [World.cell?_of_block (ho.block gx gxl (fun h => h))]; exact hcx i hin
        have q2 : wr.cell? ⟨gy, i, none⟩ = some (.int .u8 (dF y i : Int)) := by rw [World.cell?_of_block (ho.block gy gyl (fun h => h))]; exact hcy i hin
        have a1 : decide ((i : Int) < (n : Int)) = true := by simp; omega
        have a2 : (i : Int) < (n : Int) := by omega
        generalize hxx : dF x i = xx at *
        generalize hyy : dF y i = yy at *
        have Hx := hide hxx
        have Hy := hide hyy
        clear hxx hyy hcx hcy hxc hyc
        by_cases hxy : xx = yy
        · subst hxy
          have b1 : ((xx : Int) != (xx : Int)) = false := by simp
          go_wp2_with fail
          go_quiet (fail)
          go_wp2_with fail
          go_roundw
          case rel =>
            refine ⟨i + 1, by omega, by go_num, fun j hj => ?_, ho.drewO _⟩
            by_cases e : j = i
            · subst e; rw [unhide Hx, unhide Hy]
            · exact unhide Ha j (by omega)
          case measure => simp [intOf]; omega
        · have b1 : ((xx : Int) != (yy : Int)) = true := by simp; omega
          have hne : decide (x = y) = false := by
            simp
            intro e
            have h1 := unhide Hx
            rw [e, unhide Hy] at h1
            exact hxy h1.symm
          have Hne := hide hne
          clear hne
          go_wp2_with fail
          go_quiet (fail)
          go_wp2_with fail
          go_ret
          rw [unhide Hne]
          exact ⟨rfl, ho.drewO _⟩
      · obtain rfl : i = n := by omega
        have heq : decide (x = y) = true := by simpa using (unhide Hext) (unhide Ha)
        have Heq := hide heq
        have a1 : decide ((i : Int) < (i : Int)) = false := by simp
        have a1' : ¬ i < i := by omega
        clear heq
        go_wp2_with fail
        go_ret
        rw [unhide Heq]
        exact ⟨rfl, ho⟩
  · have hne : decide (x = y) = false := by
      simp
      intro e; rw [e] at hl; exact hl rfl
    rw [hne]
    generalize x.length = n at *
    generalize y.length = k at *
    have n1 : ((n : Int) != (k : Int)) = true := by simp; omega
    go_enter Try.func51, Try.ntmps51
    go_wp2_with fail
    go_ret
    exact ⟨rfl, Only.refl _ _⟩
end Go.Proofs.Qxb6500419a
