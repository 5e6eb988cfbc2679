/-
  OWN WORK. THE TABLE LAW: Look.
-/
import Derived.Test.Qxb6500413aGreatECk
import Derived.Test.Qxb6500413aGreatEBe
import Derived.Deep.RegionLaw
import Derived.Deep.AppendLies
import Derived.Deep.DeepCutAuto
namespace Go.Proofs.Qxb6500413aGreat
open Go.RowKit Go.PlainAid
set_option linter.unusedSimpArgs false
set_option linter.unusedVariables false

def yA (S : Vu) (h : Int) (k : ByteArray) (past : Bool) : KV := ((Vz S h).bind (seekL k past)).getD kvD
def yC (S : Vu) (h : Int) (k : ByteArray) (past : Bool) : Int := match Vz S h with
  | none => 7
  | some l => match seekL k past l with
    | none => 9
    | some _ => 0
theorem seekS_y (S : Vu) (h : Int) (k : ByteArray) (past : Bool) : seekS S h k past = .tuple #[kvA (yA S h k past), .int .i64 (yC S h k past)] := by
  unfold seekS yA yC
  cases Vz S h with
  | none => rfl
  | some l =>
    simp only [Option.bind_some]
    unfold seV
    cases seekL k past l <;> rfl
/-- The walk through a tree. -/
def wlk (S : Vu) (h : Int) : Nat → ByteArray → Bool → List KV
  | 0, _, _ => []
  | n + 1, k, past => if yC S h k past = 0 then yA S h k past :: wlk S h n (yA S h k past).1 true else []
def shE (S : Vu) (i : Nat) : List KV := wlk S (i : Int) 65 ⟨#[]⟩ false
theorem wlk_len (S : Vu) (h : Int) : ∀ n k past, (wlk S h n k past).length ≤ n
  | 0, k, past => Nat.le_refl _
  | n + 1, k, past => by
    unfold wlk
    split
    · have := wlk_len S h n (yA S h k past).1 true
      simp
      omega
    · simp
theorem shE_len (S : Vu) (i : Nat) : (shE S i).length ≤ 65 := wlk_len S i 65 _ _
def kvcs : List KV → List Value
  | [] => []
  | e :: l => .string e.1 :: .string e.2 :: kvcs l
theorem kvcs_len (l : List KV) : (kvcs l).length = l.length * 2 := by
  induction l with
  | nil => rfl
  | cons e l ih => simp only [kvcs, List.length_cons, ih]; omega
theorem kvcs_app (l r : List KV) : kvcs (l ++ r) = kvcs l ++ kvcs r := by
  induction l with
  | nil => rfl
  | cons e l ih => simp [kvcs, ih]
theorem kvcs_at : ∀ (l : List KV) (i : Nat) {e : KV}, l[i]? = some e → (kvcs l)[i * 2]? = some (.string e.1) ∧ (kvcs l)[i * 2 + 1]? = some (.string e.2)
  | [], i, e, h => by simp at h
  | a :: l, 0, e, h => by
    obtain rfl : a = e := by simpa using h
    exact ⟨rfl, rfl⟩
  | a :: l, i + 1, e, h => by
    obtain ⟨h1, h2⟩ := kvcs_at l i (show l[i]? = some e by simpa using h)
    rw [Nat.succ_mul]
    exact ⟨by simpa [kvcs] using h1, by simpa [kvcs] using h2⟩
/-- A Shot's cells: the bracket, the handles in use, the entries. -/
def shG (op : Bool) (S : Vu) (es : Nat → Value) (n : Nat) (j : Nat) : Value := if j = 0 then .bool op else if j < 9 then .bool (if j - 1 < n then (Vz S ((j - 1 : Nat) : Int)).isSome else false) else es (j - 9)
def updE (es : Nat → Value) (i : Nat) (v : Value) (j : Nat) : Value := if j = i then v else es j
def updL (L : Nat → List KV) (i : Nat) (l : List KV) (j : Nat) : List KV := if j = i then l else L j
structure ShI (w : World) (q : Gnd) (op : Bool) (S : Vu) (kb s : Nat) (es : Nat → Value) (n : Nat) (L : Nat → List KV) (wr : World) : Prop where
  bx : Has wr kb (jbC q.d q.f) 30
  sh : Has wr s (tabV 17 (shG op S es n)) 99
  ow : ∀ i, i < 8 → wr.ownsRow 0 101 2 (es i) (L i).length (kvcs (L i))
  nw : ∀ i, i < 8 → ∀ k, (es i).ownBlock = some k → w.heap.size ≤ k
  ap : ∀ i j, i < 8 → j < 8 → i ≠ j → ∀ k, (es i).ownBlock = some k → (es j).ownBlock ≠ some k
  fv : FV q wr op S
  on : Only q.S w wr
  al : ∀ k, q.A k → k < w.heap.size
  kl : w.heap.size ≤ kb ∧ w.heap.size ≤ s
section
variable {w wr w1 : World} {q : Gnd} {op : Bool} {S : Vu} {kb s n : Nat} {es : Nat → Value} {L : Nat → List KV}
theorem FV.keepN {B : Nat → Prop} (A : FV q wr op S) (ho : Only B wr w1) (hB : ∀ k, q.A k → ¬ B k) : FV q w1 op S :=
  A.keep ho (fun k hk => hB k (.inl hk)) (fun k hk => hB k (.inr (.inl hk))) (hB _ (.inr (.inr (.inl rfl)))) (hB _ (.inr (.inr (.inr rfl))))
theorem ShI.nS (h : ShI w q op S kb s es n L wr) {k : Nat} (hk : w.heap.size ≤ k) : ¬ q.S k := fun c => by have := h.al k (Gnd.S_A c); omega
theorem ShI.look (h : ShI w q op S kb s es n L wr) (A : FV q w1 op S) (ho : Only q.S wr w1) : ShI w q op S kb s es n L w1 :=
  ⟨h.bx.keep ho (h.nS h.kl.1), h.sh.keep ho (h.nS h.kl.2), fun i hi => ownsRow_keep (h.ow i hi) ho (fun k hk => h.nS (h.nw i hi k hk)), h.nw, h.ap, A, h.on.ss ho, h.al, h.kl⟩
theorem ShI.quiet (h : ShI w q op S kb s es n L wr) (ho : Only (fun _ => False) wr w1) : ShI w q op S kb s es n L w1 := h.look (h.fv.quiet ho) ho.toS
theorem shG_set (hn : n < 8) : (tabV 17 (shG op S es n)).setIfInBounds (1 + n) (.bool (Vz S (n : Int)).isSome) = tabV 17 (shG op S es (n + 1)) := by
  rw [tabV_set]
  refine tabV_congr 17 (fun j hj => ?_)
  unfold shG
  by_cases e : j = 1 + n
  · rw [if_pos e, if_neg (by omega), if_pos (by omega), if_pos (by omega), show j - 1 = n by omega]
  · rw [if_neg e]
    by_cases c : j = 0
    · rw [if_pos c, if_pos c]
    · rw [if_neg c, if_neg c]
      by_cases d : j < 9
      · rw [if_pos d, if_pos d]
        by_cases f : j - 1 < n
        · rw [if_pos f, if_pos (by omega)]
        · rw [if_neg f, if_neg (by omega)]
      · rw [if_neg d, if_neg d]
theorem shG_ent {i : Nat} (hi : i < 8) {v : Value} : (tabV 17 (shG op S es n)).setIfInBounds (9 + i) v = tabV 17 (shG op S (updE es i v) n) := by
  rw [tabV_set]
  refine tabV_congr 17 (fun j hj => ?_)
  unfold shG updE
  by_cases e : j = 9 + i
  · rw [if_pos e, if_neg (by omega), if_neg (by omega), if_pos (by omega)]
  · rw [if_neg e]
    by_cases c : j = 0
    · rw [if_pos c, if_pos c]
    · rw [if_neg c, if_neg c]
      by_cases d : j < 9
      · rw [if_pos d, if_pos d]
      · rw [if_neg d, if_neg d, if_neg (by omega)]
theorem ShI.ent (h : ShI w q op S kb s es n L wr) {i : Nat} (hi : i < 8) : wr.cell? ⟨s, 9 + i, none⟩ = some (es i) ∧ wr.frozen? ⟨s, 9 + i, none⟩ = false := by
  refine ⟨?_, h.sh.free _⟩
  rw [h.sh.cell, tabV_get _ _ _ (by omega)]
  unfold shG
  rw [if_neg (by omega), if_neg (by omega), Nat.add_sub_cancel_left]
theorem ShI.use (h : ShI w q op S kb s es n L wr) (hn : n < 8) : ∃ b, wr.cell? ⟨s, 1 + n, none⟩ = some (.bool b) ∧ wr.frozen? ⟨s, 1 + n, none⟩ = false := by
  refine ⟨if 1 + n - 1 < n then (Vz S ((1 + n - 1 : Nat) : Int)).isSome else false, ?_, h.sh.free _⟩
  rw [h.sh.cell, tabV_get _ _ _ (by omega)]
  unfold shG
  rw [if_neg (by omega), if_pos (by omega)]
theorem ShI.own (h : ShI w q op S kb s es n L wr) {g : Nat} (hg : w.heap.size ≤ g) (ho : Only (fun k => k = g) wr w1) (h1 : kb ≠ g) (h2 : ∀ i, i < 8 → ∀ k, (es i).ownBlock = some k → k ≠ g) {es' : Nat → Value} {n' : Nat} (hs : Has w1 s (tabV 17 (shG op S es' n')) 99) (he : es' = es) : ShI w q op S kb s es n' L w1 := by
  subst he
  exact ⟨h.bx.keep ho h1, hs, fun i hi => ownsRow_keep (h.ow i hi) ho (h2 i hi), h.nw, h.ap, h.fv.keepN ho (fun k hk e => by have := h.al k hk; omega), h.on.trans ho (fun k hk e => by omega), h.al, h.kl⟩
/-- A handle's flag laid. -/
theorem ShI.set1 (h : ShI w q op S kb s es n L wr) (hn : n < 8) : ShI w q op S kb s es (n + 1) L (wr.setCell ⟨s, 1 + n, none⟩ (.bool (Vz S (n : Int)).isSome)) := by
  have H := h.sh.setCell (1 + n) (.bool (Vz S (n : Int)).isSome)
  rw [shG_set hn] at H
  exact h.own h.kl.2 (only1 (p := s) _ _) (fun e => by have := h.bx; rw [e] at this; exact absurd (this.inj h.sh).2 (by decide)) (fun i hi k hk e => ownsRow_ne (h.ow i hi) h.sh (by decide) k hk e) H rfl
/-- An entry more. -/
theorem ShI.push (h : ShI w q op S kb s es n L wr) {i : Nat} (hi : i < 8) {x : KV} {w0 w3 : World} {gg cap m : Nat} (o0 : Only (fun _ => False) wr w0) (hown : w3.ownsRow 0 101 2 (.slice (some ⟨gg, 0, none⟩) m cap) m (kvcs (L i) ++ [.string x.1, .string x.2])) (hm : m = (L i).length + 1) (hgrow : w0.grownBy w3 (es i).ownBlock) (hat : (es i).ownBlock = some gg ∨ wr.heap.size ≤ gg) :
    ShI w q op S kb s (updE es i (.slice (some ⟨gg, 0, none⟩) m cap)) n (updL L i (L i ++ [x])) (w3.setCell ⟨s, 9 + i, none⟩ (.slice (some ⟨gg, 0, none⟩) m cap)) := by
  have oo : Only (fun k => (es i).ownBlock = some k) wr w3 := (o0.mono (fun _ _ e => e.elim)).grown hgrow (fun k hk _ => hk)
  have og : Only (fun k => k = s) w3 (w3.setCell ⟨s, 9 + i, none⟩ (.slice (some ⟨gg, 0, none⟩) m cap)) := only1 _ _
  have nes : ∀ j, j < 8 → ∀ k, (es j).ownBlock = some k → k ≠ s := fun j hj k hk e => ownsRow_ne (h.ow j hj) h.sh (by decide) k hk e
  have neb : ∀ j, j < 8 → ∀ k, (es j).ownBlock = some k → k ≠ kb := fun j hj k hk e => ownsRow_ne (h.ow j hj) h.bx (by decide) k hk e
  have hw := h.on.size
  have ggs : gg ≠ s := fun e => by
    rcases hat with c | c
    · exact nes i hi gg c e
    · have := h.sh.lt; omega
  have H3 := (h.sh.keep oo (fun e => nes i hi s e rfl)).setCell (9 + i) (.slice (some ⟨gg, 0, none⟩) m cap)
  rw [shG_ent hi] at H3
  have hl : (updL L i (L i ++ [x])) i = L i ++ [x] := by unfold updL; rw [if_pos rfl]
  have ggn : w.heap.size ≤ gg := by
    rcases hat with c | c
    · exact h.nw i hi gg c
    · omega
  have ggj : ∀ j, j < 8 → j ≠ i → (es j).ownBlock ≠ some gg := fun j hj hji e => by
    rcases hat with c | c
    · exact h.ap i j hi hj (fun e => hji e.symm) gg c e
    · have := ownsRow_lt (h.ow j hj) gg e; omega
  refine ⟨(h.bx.keep oo (fun e => neb i hi kb e rfl)).keep og (fun e => by have := h.bx; rw [e] at this; exact absurd (this.inj h.sh).2 (by decide)), H3, fun j hj => ?_, fun j hj k hk => ?_, fun a b ha hb hab k h1 h2 => ?_, (h.fv.keepN oo (fun k hk e => by have := h.al k hk; have := h.nw i hi k e; omega)).keepN og (fun k hk e => by have := h.al k hk; have := h.kl.2; omega), (h.on.trans oo (fun k hk e => by have := h.nw i hi k e; omega)).trans og (fun k hk e => by have := h.kl.2; omega), h.al, h.kl⟩
  · by_cases c : j = i
    · subst c
      rw [hl]
      unfold updE
      rw [if_pos rfl, List.length_append, kvcs_app]
      have := ownsRow_keep hown og (fun k hk e => by simp [Value.ownBlock] at hk; exact ggs (by omega))
      rw [hm] at this ⊢
      exact this
    · unfold updE updL
      rw [if_neg c, if_neg c]
      exact ownsRow_keep (ownsRow_keep (h.ow j hj) oo (fun k hk e => h.ap i j hi hj (fun e => c e.symm) k e hk)) og (fun k hk e => nes j hj k hk e)
  · unfold updE at hk
    by_cases c : j = i
    · rw [if_pos c] at hk
      simp [Value.ownBlock] at hk
      omega
    · rw [if_neg c] at hk
      exact h.nw j hj k hk
  · unfold updE at h1 h2
    by_cases ca : a = i
    · rw [if_pos ca] at h1
      rw [if_neg (by omega)] at h2
      simp [Value.ownBlock] at h1
      subst h1
      exact ggj b hb (by omega) h2
    · rw [if_neg ca] at h1
      by_cases cb : b = i
      · rw [if_pos cb] at h2
        simp [Value.ownBlock] at h2
        subst h2
        exact ggj a ha ca h1
      · rw [if_neg cb] at h2
        exact h.ap a b ha hb hab k h1 h2
end
theorem Tryz.infoBKV : (Tryz.prog.info? 101).map (fun i => (i.zero, i.size, i.bytes)) = some (some (.agg #[.string ⟨#[]⟩, .string ⟨#[]⟩]), 2, 32) := by kernel_rfl
/-- A Shot. -/
def ShT (w : World) (s : Nat) (op : Bool) (S : Vu) (lo : Nat) : Prop := ∃ es, Has w s (tabV 17 (shG op S es 8)) 99 ∧ lo ≤ s ∧ ∀ i, i < 8 → w.ownsRow 0 101 2 (es i) (shE S i).length (kvcs (shE S i)) ∧ ∀ k, (es i).ownBlock = some k → lo ≤ k
theorem ShT.keep {w w' : World} {s lo : Nat} {op : Bool} {S : Vu} {B : Nat → Prop} (h : ShT w s op S lo) (ho : Only B w w') (hB : ∀ k, lo ≤ k → ¬ B k) : ShT w' s op S lo := by
  obtain ⟨es, h1, h2, h3⟩ := h
  exact ⟨es, h1.keep ho (hB s h2), h2, fun i hi => ⟨ownsRow_keep (h3 i hi).1 ho (fun k hk => hB k ((h3 i hi).2 k hk)), (h3 i hi).2⟩⟩
section
variable {w : World} {q : Gnd} {op : Bool} {S : Vu}
set_option maxRecDepth 100000 in
set_option maxHeartbeats 8000000 in
theorem ylook_any (A : FV q w op S) : Calls Tryz.prog 22 #[jbV q.d q.f] w fun e w' => ∃ s, e = .returned (.pointer (some ⟨s, 0, none⟩)) ∧ ShT w' s op S w.heap.size ∧ FV q w' op S ∧ Only q.S w w' := by
  obtain ⟨i0, hi0, hz0, hz1, hz2⟩ := info_parts Tryz.infoBKV
  have o1 : Only (fun _ => False) w ((w.alloc (.cells (jbC q.d q.f) 30)).alloc (.cells #[.bool false, .bool false, .bool false, .bool false, .bool false, .bool false, .bool false, .bool false, .bool false, .slice none 0 0, .slice none 0 0, .slice none 0 0, .slice none 0 0, .slice none 0 0, .slice none 0 0, .slice none 0 0, .slice none 0 0] 99)) := ((Only.refl _ w).alloc _).alloc _
  have B1 : Has ((w.alloc (.cells (jbC q.d q.f) 30)).alloc (.cells #[.bool false, .bool false, .bool false, .bool false, .bool false, .bool false, .bool false, .bool false, .bool false, .slice none 0 0, .slice none 0 0, .slice none 0 0, .slice none 0 0, .slice none 0 0, .slice none 0 0, .slice none 0 0, .slice none 0 0] 99)) w.heap.size (jbC q.d q.f) 30 := (Has.new _ _ _).alloc _
  have S1 : Has ((w.alloc (.cells (jbC q.d q.f) 30)).alloc (.cells #[.bool false, .bool false, .bool false, .bool false, .bool false, .bool false, .bool false, .bool false, .bool false, .slice none 0 0, .slice none 0 0, .slice none 0 0, .slice none 0 0, .slice none 0 0, .slice none 0 0, .slice none 0 0, .slice none 0 0] 99)) (w.heap.size + 1) (tabV 17 (shG false S (fun _ => .slice none 0 0) 0)) 99 := Has.new' _ _ _ _ (by simp)
  have HA := hide (And.intro A (And.intro o1 (And.intro B1 S1)))
  clear A o1 B1 S1
  unfold jbV
  unfold jbC at HA ⊢
  go_enter Tryz.func22, Tryz.ntmps22
  go_upto_region 2 with fail
  generalize (w.alloc (.cells #[.pointer (some ⟨q.d, 0, none⟩), .pointer (some ⟨q.f, 0, none⟩)] 30)).alloc (.cells #[.bool false, .bool false, .bool false, .bool false, .bool false, .bool false, .bool false, .bool false, .bool false, .slice none 0 0, .slice none 0 0, .slice none 0 0, .slice none 0 0, .slice none 0 0, .slice none 0 0, .slice none 0 0, .slice none 0 0] 99) = w1 at *
  have hs1 := (unhide HA).2.2.2.lt
  generalize hkb : w.heap.size = kb at *
  have c1 := (unhide HA).2.2.1.cell 1
  have s0 := (unhide HA).2.2.2.cell 0
  have f0 := (unhide HA).2.2.2.free 0
  rw [tabV_get _ _ _ (by omega)] at s0
  simp [shG] at c1 s0
  have C1 := hide (vintxn_any ((unhide HA).1.quiet (unhide HA).2.1))
  have HI := hide (show ShI w q op S kb (kb + 1) (fun _ => .slice none 0 0) 0 (fun _ => []) (w1.setCell ⟨kb + 1, 0, none⟩ (.bool op)) from by
    obtain ⟨A, o1, B1, S1⟩ := unhide HA
    have og : Only (fun k => k = kb + 1) w1 (w1.setCell ⟨kb + 1, 0, none⟩ (.bool op)) := only1 _ _
    have al := A.Alt
    have S2 := S1.setCell 0 (.bool op)
    rw [tabV_set] at S2
    refine ⟨B1.keep og (by omega), ?_, fun i hi => World.ownsRow_nil _ _ _ _, fun i hi k hk => by simp [Value.ownBlock] at hk, fun i j hi hj hij k hk => by simp [Value.ownBlock] at hk, (A.quiet o1).keepN og (fun k hk e => by have := al k hk; omega), o1.toS.trans og (fun k hk e => by omega), al, by omega, by omega⟩
    refine (show tabV 17 (fun j => if j = 0 then Value.bool op else shG false S (fun _ => .slice none 0 0) 0 j) = tabV 17 (shG op S (fun _ => .slice none 0 0) 0) from tabV_congr 17 (fun j hj => ?_)) ▸ S2
    unfold shG
    by_cases e : j = 0
    · rw [if_pos e, if_pos e]
    · rw [if_neg e, if_neg e, if_neg e])
  go_wp2_with fail
  refine (unhide C1).mono ?_
  rintro e w' ⟨rfl, rfl⟩
  go_upto_region 4 with fail
  generalize w1.setCell ⟨kb + 1, 0, none⟩ (.bool op) = w2 at *
  clear c1 s0 f0 C1
  go_loopw [4, 5, 6, 7] (fun hv pv ev iv wr => ∃ (n : Nat) (es : Nat → Value) (L : Nat → List KV), hv = .int .i64 n ∧ n ≤ 8 ∧ ShI w q op S kb (kb + 1) es n L wr ∧ (∀ i, i < 8 → L i = if i < n then shE S i else []) ∧ (∀ i, n ≤ i → i < 8 → es i = .slice none 0 0)) (fun hv _ _ _ _ => 8 - (intOf hv).toNat)
  case atStart => exact ⟨0, _, _, rfl, Nat.zero_le _, unhide HI, fun i hi => rfl, fun i _ _ => rfl⟩
  case round =>
    clear HI
    obtain ⟨n, es, L, rfl, hn, I, hL, hE⟩ := hrel
    by_cases h8 : n < 8
    · have a1 : decide ((n : Int) < 8) = true := decide_eq_true (by omega)
      have a2 : (n : Int) < 8 := by omega
      have C2 := vused_any (I.fv.quiet (Only.refl (fun _ => False) _).drew) (n : Int)
      have c1 := I.bx.cell 1
      simp [jbC] at c1
      obtain ⟨ux, u1, uf⟩ := I.use h8
      have HI := hide (I.quiet (Only.refl (fun _ => False) _).drew)
      have HL := hide (And.intro hL hE)
      clear I hL hE
      generalize hb : (Vz S (n : Int)).isSome = bb at *
      have C2 := hide C2
      have HB := hide hb
      clear hb
      go_upto_region 6 with fail
      go_cut [] (fun wx => ShI w q op S kb (kb + 1) es (n + 1) L wx)
      case first =>
        go_region_with (first | (go_at_call 49; refine (unhide C2).mono ?_; rintro e w6 ⟨rfl, A6, o6⟩; have I6 := (unhide HI).look A6 o6; have d1 := I6.bx.cell 1; simp [jbC] at d1; obtain ⟨uy, tu, tf⟩ := I6.use h8; have GG := hide I6; clear I6 A6 o6))
        all_goals
          go_wp2_with fail
          go_meet
          have I7 := (unhide GG).set1 h8
          rw [unhide HB] at I7
          exact I7
      case rest =>
      generalize wc = w6 at *
      have HI6 := hide hcut
      clear hcut HI c1 u1 uf C2 HB
      have c1 := (unhide HI6).bx.cell 1
      simp [jbC] at c1
      have C3 := vseek_any (unhide HI6).fv (n : Int) ⟨#[]⟩
      rw [seekS_y] at C3
      unfold kvA kvR at C3
      have C3 := hide C3
      go_wp2_with fail
      refine (unhide C3).mono ?_
      rintro e w7 ⟨rfl, A7, o7⟩
      have I7 := (unhide HI6).look A7 o7
      have oB : Only (fun _ => False) w7 (w7.alloc (.cells #[.string (yA S (n : Int) ⟨#[]⟩ false).1, .string (yA S (n : Int) ⟨#[]⟩ false).2] 101)) := (Only.refl _ _).alloc _
      have Bx : Has (w7.alloc (.cells #[.string (yA S (n : Int) ⟨#[]⟩ false).1, .string (yA S (n : Int) ⟨#[]⟩ false).2] 101)) w7.heap.size #[.string (yA S (n : Int) ⟨#[]⟩ false).1, .string (yA S (n : Int) ⟨#[]⟩ false).2] 101 := Has.new _ _ _
      have HI7 := hide (And.intro (I7.quiet oB) (And.intro Bx (And.intro (show ∀ i, i < 8 → (es i).ownBlock ≠ some w7.heap.size from fun i hi e => by have := ownsRow_lt (I7.ow i hi) _ e; omega) (Nat.le_trans I7.on.size (Nat.le_refl _)))))
      clear I7 A7 o7 oB Bx C3 c1 HI6
      go_upto_region 9 with fail
      generalize w7.alloc (.cells #[.string (yA S (n : Int) ⟨#[]⟩ false).1, .string (yA S (n : Int) ⟨#[]⟩ false).2] 101) = w8 at *
      generalize w7.heap.size = bx at *
      obtain ⟨wo, hwo⟩ : ∃ wo : World, wo = wr := ⟨_, rfl⟩
      clear hwo
      go_loopw [6, 7] (fun ev iv wr => ∃ (i : Nat) (k : ByteArray) (past : Bool) (p : List KV) (es' : Nat → Value), ev = .int .i64 (yC S (n : Int) k past) ∧ iv = .int .i64 i ∧ i ≤ 65 ∧ i = p.length ∧ p ++ wlk S (n : Int) (65 - i) k past = shE S n ∧ (∀ j, j ≠ n → es' j = es j) ∧ ShI w q op S kb (kb + 1) es' (n + 1) (updL L n p) wr ∧ Has wr bx #[.string (yA S (n : Int) k past).1, .string (yA S (n : Int) k past).2] 101 ∧ (∀ j, j < 8 → (es' j).ownBlock ≠ some bx) ∧ kb ≤ bx) (fun _ iv _ => 66 - (intOf iv).toNat)
      case atStart =>
        refine ⟨0, ⟨#[]⟩, false, [], es, rfl, rfl, Nat.zero_le _, rfl, rfl, fun _ _ => rfl, ?_, (unhide HI7).2.1, (unhide HI7).2.2.1, by rw [← hkb]; exact (unhide HI7).2.2.2⟩
        have e : updL L n [] = L := by
          funext j
          unfold updL
          by_cases c : j = n
          · rw [if_pos c, c, (unhide HL).1 n h8, if_neg (by omega)]
          · rw [if_neg c]
        rw [e]
        exact (unhide HI7).1
      case round =>
        obtain ⟨i, k, past, p, es', rfl, rfl, hi, hip, hw, hes, I, Bx, nbx, hbx⟩ := hrel
        by_cases hC : yC S (n : Int) k past = 0
        · have d1 : (yC S (n : Int) k past == 0) = true := by simpa using hC
          by_cases hi64 : i ≤ 64
          · have d2 : decide ((i : Int) ≤ 64) = true := decide_eq_true (by omega)
            have d2n : decide (i ≤ 64) = true := decide_eq_true hi64
            have hwx : (p ++ [yA S (n : Int) k past]) ++ wlk S (n : Int) (65 - (i + 1)) (yA S (n : Int) k past).1 true = shE S n := by
              rw [← hw, show 65 - i = (65 - (i + 1)) + 1 by omega]
              conv => rhs; unfold wlk
              rw [if_pos hC, List.append_assoc]
              rfl
            obtain ⟨e0, ef⟩ := I.ent h8
            have own1 := I.ow n h8
            have hup : updL L n p n = p := by unfold updL; rw [if_pos rfl]
            rw [hup] at own1
            obtain ⟨ia, icap, hiv⟩ := ownsRow_shape own1
            have HI := hide (And.intro I (And.intro Bx (And.intro nbx (And.intro hbx (And.intro hes (And.intro hwx (And.intro hip hiv)))))))
            rw [hiv] at e0 own1
            rw [← hip] at e0 own1
            have b0 := Bx.cell 0
            have b1 := Bx.cell 1
            simp at b0 b1
            have hne1 : (Value.slice ia i icap).ownBlock ≠ some (kb + 1) := fun e => ownsRow_ne own1 I.sh (by decide) _ e rfl
            have hne2 : (Value.slice ia i icap).ownBlock ≠ some bx := fun e => nbx n h8 (by rw [hiv, ← hip]; exact e)
            have lsW : kb + 1 < wr.heap.size := I.sh.lt
            have lbW : bx < wr.heap.size := Bx.lt
            have X1 := (I.sh.alloc (.cells #[.string (yA S (n : Int) k past).1, .string (yA S (n : Int) k past).2] 101)).drew
            have x1 : (wr.alloc (.cells #[.string (yA S (n : Int) k past).1, .string (yA S (n : Int) k past).2] 101)).drew.cell? ⟨kb + 1, 9 + n, none⟩ = some (.slice ia i icap) := by
              rw [X1.cell, tabV_get _ _ _ (by omega)]
              unfold shG
              rw [if_neg (by omega), if_neg (by omega), Nat.add_sub_cancel_left, hiv, hip]
            have x1f := X1.free (9 + n)
            have l5 : i + 1 ≤ maxLen := by unfold maxLen; omega
            generalize hxk : yA S (n : Int) k past = xk at *
            clear I Bx nbx hes hwx hw hiv hup X1 hbx hC hip
            have HPP := hide (fun gg cap3 (w4 : World) (h1 : w4.ownsRow 0 101 2 (.slice (some ⟨gg, 0, none⟩) (i + 1) cap3) (i + 1) (kvcs p ++ [.string xk.1, .string xk.2])) (o : Obj) (h2 : (wr.alloc o).drew.grownBy w4 (Value.slice ia i icap).ownBlock) (h3 : (Value.slice ia i icap).ownBlock = some gg ∨ gg = wr.heap.size + 1) => show ShI w q op S kb (kb + 1) (updE es' n (.slice (some ⟨gg, 0, none⟩) (i + 1) cap3)) (n + 1) (updL L n (p ++ [xk])) (w4.setCell ⟨kb + 1, 9 + n, none⟩ (.slice (some ⟨gg, 0, none⟩) (i + 1) cap3)) ∧ Has (w4.setCell ⟨kb + 1, 9 + n, none⟩ (.slice (some ⟨gg, 0, none⟩) (i + 1) cap3)) bx #[.string xk.1, .string xk.2] 101 ∧ (∀ j, j < 8 → (updE es' n (.slice (some ⟨gg, 0, none⟩) (i + 1) cap3) j).ownBlock ≠ some bx) from by
              obtain ⟨I, Bx, nbx, hbx, hes, hwx, hip, hiv⟩ := unhide HI
              have hup : updL L n p n = p := by unfold updL; rw [if_pos rfl]
              have he : (es' n).ownBlock = (Value.slice ia i icap).ownBlock := by rw [hiv, hip]
              have P := I.push (i := n) h8 (x := xk) (((Only.refl (fun _ => False) wr).alloc o).drew) (by rw [hup]; exact h1) (by rw [hup]; omega) (by rw [he]; exact h2) (by rw [he]; rcases h3 with c | c; exact .inl c; exact .inr (by omega))
              have e2 : updL (updL L n p) n (updL L n p n ++ [xk]) = updL L n (p ++ [xk]) := by
                funext j
                unfold updL
                by_cases c : j = n
                · rw [if_pos c, if_pos c, if_pos rfl]
                · rw [if_neg c, if_neg c, if_neg c]
              rw [e2] at P
              have lb := Bx.lt
              have oo : Only (fun k => (Value.slice ia i icap).ownBlock = some k) wr w4 := ((((Only.refl _ wr).alloc o).drew).mono (fun _ _ e => e)).grown h2 (fun k hk _ => hk)
              have og : Only (fun k => k = kb + 1) w4 (w4.setCell ⟨kb + 1, 9 + n, none⟩ (.slice (some ⟨gg, 0, none⟩) (i + 1) cap3)) := only1 _ _
              refine ⟨P, (Bx.keep oo hne2).keep og (fun e => by have := Bx; rw [e] at this; exact absurd (this.inj I.sh).2 (by decide)), fun j hj e => ?_⟩
              unfold updE at e
              by_cases c : j = n
              · rw [if_pos c] at e
                simp [Value.ownBlock] at e
                rcases h3 with d | d
                · exact hne2 (by rw [d, e])
                · omega
              · rw [if_neg c] at e
                exact nbx j hj e)
            go_upto_region 11 with fail
            go_cut [] (fun wx => ∃ es2, (∀ j, j ≠ n → es2 j = es' j) ∧ ShI w q op S kb (kb + 1) es2 (n + 1) (updL L n (p ++ [xk])) wx ∧ Has wx bx #[.string xk.1, .string xk.2] 101 ∧ ∀ j, j < 8 → (es2 j).ownBlock ≠ some bx)
            case first =>
              go_region_law
                ((refine step_append_lies _ (by rfl) _ _ _ (by rfl) 0 101 i0 _ 2 32 Tryz.underlying96 hi0 hz0 hz1 hz2 rfl (by omega) (.slice ia i icap) i (kvcs p) (by rfl) ((own1.alloc _).drew) ⟨wr.heap.size, 0, none⟩ 1 1 [.string xk.1, .string xk.2] (by rfl) (by rfl) (World.news_of_block (cs := #[.string xk.1, .string xk.2]) (t := 101) (fr := (0, 0)) (heap_alloc_new wr _)) (by simp [Value.oneCell']) (by omega) l5 (by omega) (by simp) (wr.heap.size + 1) (by simp) ?_; intro gg cap3 w4 hown1 hgrow hat hlt3; have y3 := (hgrow.cell_far ⟨kb + 1, 9 + n, none⟩ (by simp; omega) (Ne.symm hne1)).trans x1; have yz := (hgrow.frozen_far ⟨kb + 1, 9 + n, none⟩ (by simp; omega) (Ne.symm hne1)).trans x1f))
              all_goals
                have HP := hide (unhide HPP gg cap3 w4 hown1 _ hgrow hat)
                clear hown1 hgrow hat y3 yz
                go_wp2_with fail
                go_meet
                exact ⟨_, (fun j hj => by unfold updE; rw [if_neg hj]), (unhide HP).1, (unhide HP).2.1, (unhide HP).2.2⟩
            case rest =>
            generalize wc = w9 at *
            obtain ⟨es2, h2e, I9, B9, nb9⟩ := hcut
            have c1 := I9.bx.cell 1
            have b0 := B9.cell 0
            simp [jbC] at c1 b0
            have HI9 := hide (And.intro h2e (And.intro I9 (And.intro B9 nb9)))
            have C4 := vnext_any I9.fv (n : Int) xk.1
            rw [seekS_y] at C4
            unfold kvA kvR at C4
            have C4 := hide C4
            clear h2e I9 B9 nb9 e0 ef own1 hne1 hne2 x1 x1f HPP b1
            go_wp2_with fail
            refine (unhide C4).mono ?_
            rintro e w10 ⟨rfl, A10, o10⟩
            have I10 := (unhide HI9).2.1.look A10 o10
            have hbx := (unhide HI).2.2.2.1
            have B10 := (unhide HI9).2.2.1.keep o10 (I10.nS (by rw [hkb]; exact hbx))
            have g0 := B10.cell 0
            have g1 := B10.cell 1
            have p0 := B10.free 0
            have p1 := B10.free 1
            simp at g0 g1
            have HN := hide (show ShI w q op S kb (kb + 1) es2 (n + 1) (updL L n (p ++ [xk])) ((w10.setCell ⟨bx, 0, none⟩ (.string (yA S (n : Int) xk.1 true).1)).setCell ⟨bx, 1, none⟩ (.string (yA S (n : Int) xk.1 true).2)) ∧ Has ((w10.setCell ⟨bx, 0, none⟩ (.string (yA S (n : Int) xk.1 true).1)).setCell ⟨bx, 1, none⟩ (.string (yA S (n : Int) xk.1 true).2)) bx #[.string (yA S (n : Int) xk.1 true).1, .string (yA S (n : Int) xk.1 true).2] 101 from by
              have og : Only (fun k => k = bx) w10 ((w10.setCell ⟨bx, 0, none⟩ (.string (yA S (n : Int) xk.1 true).1)).setCell ⟨bx, 1, none⟩ (.string (yA S (n : Int) xk.1 true).2)) := (only1 (p := bx) _ _).trans (only1 (p := bx) _ _) (fun _ _ h => h)
              refine ⟨I10.own (by rw [hkb]; exact hbx) og (fun e => by have := I10.bx; rw [e] at this; exact absurd (this.inj B10).2 (by decide)) (fun j hj k hk e => (unhide HI9).2.2.2 j hj (by rw [← e]; exact hk)) (I10.sh.keep og (fun e => by have := I10.sh; rw [e] at this; exact absurd (this.inj B10).2 (by decide))) rfl, ?_⟩
              exact (B10.setCell 0 (.string (yA S (n : Int) xk.1 true).1)).setCell 1 (.string (yA S (n : Int) xk.1 true).2))
            clear I10 A10 o10 B10 C4 c1 b0 hbx
            go_wp2_with fail
            go_roundw
            case rel => exact ⟨i + 1, xk.1, true, p ++ [xk], es2, rfl, by go_num, by omega, by have := (unhide HI).2.2.2.2.2.2.1; simp; omega, (unhide HI).2.2.2.2.2.1, fun j hj => by rw [(unhide HI9).1 j hj]; exact (unhide HI).2.2.2.2.1 j hj, (unhide HN).1, (unhide HN).2, (unhide HI9).2.2.2, (unhide HI).2.2.2.1⟩
            case measure => simp [intOf]; omega
          · have d2 : decide ((i : Int) ≤ 64) = false := decide_eq_false (by omega)
            have d2n : decide (i ≤ 64) = false := decide_eq_false hi64
            have HF := hide (show ShI w q op S kb (kb + 1) es' (n + 1) (updL L n (shE S n)) wr from by
              have e : p = shE S n := by rw [← hw, show 65 - i = 0 by omega]; unfold wlk; rw [List.append_nil]
              rw [← e]; exact I)
            have HE2 := hide hes
            clear I Bx nbx hes hw hC hbx hip
            generalize yC S (n : Int) k past = zc at *
            go_wp2_with fail
            go_roundw
            case rel =>
              refine ⟨n + 1, es', _, by go_num, by omega, unhide HF, fun j hj => ?_, fun j h1 h2 => by rw [unhide HE2 j (by omega)]; exact (unhide HL).2 j (by omega) h2⟩
              unfold updL
              by_cases c : j = n
              · rw [if_pos c, if_pos (by omega), c]
              · rw [if_neg c, (unhide HL).1 j hj]
                by_cases d : j < n
                · rw [if_pos d, if_pos (by omega)]
                · rw [if_neg d, if_neg (by omega)]
            case measure => simp [intOf]; omega
        · have d1 : (yC S (n : Int) k past == 0) = false := by simpa using hC
          have HF := hide (show ShI w q op S kb (kb + 1) es' (n + 1) (updL L n (shE S n)) wr from by
            have e : p = shE S n := by
              rw [← hw]
              cases hm : 65 - i with
              | zero => unfold wlk; rw [List.append_nil]
              | succ m => unfold wlk; rw [if_neg hC, List.append_nil]
            rw [← e]; exact I)
          have HE2 := hide hes
          clear I Bx nbx hes hw hC hbx hip
          generalize yC S (n : Int) k past = zc at *
          go_wp2_with fail
          go_roundw
          case rel =>
            refine ⟨n + 1, es', _, by go_num, by omega, unhide HF, fun j hj => ?_, fun j h1 h2 => by rw [unhide HE2 j (by omega)]; exact (unhide HL).2 j (by omega) h2⟩
            unfold updL
            by_cases c : j = n
            · rw [if_pos c, if_pos (by omega), c]
            · rw [if_neg c, (unhide HL).1 j hj]
              by_cases d : j < n
              · rw [if_pos d, if_pos (by omega)]
              · rw [if_neg d, if_neg (by omega)]
          case measure => simp [intOf]; omega
    · obtain rfl : n = 8 := by omega
      have a1 : decide (((8 : Nat) : Int) < 8) = false := decide_eq_false (by omega)
      have HP := hide (show ShT wr (kb + 1) op S w.heap.size ∧ FV q wr op S ∧ Only q.S w wr from
        ⟨⟨es, I.sh, by omega, fun i hi => ⟨by have := I.ow i hi; rw [hL i hi, if_pos hi] at this; exact this, I.nw i hi⟩⟩, I.fv, I.on⟩)
      clear I hL hE
      go_wp2_with fail
      go_ret
      exact ⟨_, rfl, unhide HP⟩
end
end Go.Proofs.Qxb6500413aGreat
