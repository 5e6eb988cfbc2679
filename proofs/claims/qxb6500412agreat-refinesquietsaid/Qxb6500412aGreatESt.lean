/-
  OWN WORK. TABLE: the store over the forest; a span of a tree.
-/
import Derived.Test.Qxb6500412aGreatBVu
import Derived.Test.Qxb6500412aGreatEHd3
import Derived.Test.Qxb6500412aGreatERs
import Derived.Test.Qxb6500412aGreatEScP
import Derived.Deep.RegionWith
import Derived.Deep.DeepCutAuto
namespace Go.Proofs.Qxb6500412aGreat
open Go.RowKit Go.PlainAid
set_option linter.unusedSimpArgs false
set_option linter.unusedVariables false

/-- All blocks of the real side. -/
def Gnd.A (q : Gnd) (k : Nat) : Prop := q.F k ∨ q.G k ∨ k = q.p ∨ k = q.f
theorem Gnd.S_A {q : Gnd} {k : Nat} (h : q.S k) : q.A k := by
  rcases h with h | h
  · exact .inr (.inl h)
  · exact .inr (.inr (.inl h))
theorem Gnd.D_A {q : Gnd} {k : Nat} (h : q.D k) : q.A k := by
  rcases h with h | h | h
  · exact .inl h
  · exact .inr (.inl h)
  · exact .inr (.inr (.inl h))
theorem FV.Alt {q : Gnd} {w : World} {op : Bool} {S : Vu} (A : FV q w op S) : ∀ k, q.A k → k < w.heap.size := by
  obtain ⟨view, F, A, I, rfl⟩ := A
  rintro k (h | h | h | h)
  · exact A.pg.inF k h
  · exact A.pg.inG k h
  · rw [h]; exact A.pg.plt
  · rw [h]; exact A.has.lt
/-- The store x over the forest. -/
structure ST (q : Gnd) (w : World) (x : Nat) (op : Bool) (S : Vu) : Prop where
  fv : FV q w op S
  has : Has w x #[.pointer (some ⟨q.f, 0, none⟩)] 147
  nx : ¬ q.A x
section
variable {q : Gnd} {w w' : World} {x : Nat} {op op' : Bool} {S S' : Vu}
theorem ST.turn (h : ST q w x op S) (A : FV q w' op' S') (ho : Only q.S w w') : ST q w' x op' S' := ⟨A, h.has.keep ho (fun c => h.nx (Gnd.S_A c)), h.nx⟩
theorem ST.quiet (h : ST q w x op S) (ho : Only (fun _ => False) w w') : ST q w' x op S := ⟨h.fv.quiet ho, h.has.keep ho (fun c => c), h.nx⟩
theorem ST.keep {B : Nat → Prop} (h : ST q w x op S) (ho : Only B w w') (hB : ∀ k, q.A k ∨ k = x → ¬ B k) : ST q w' x op S :=
  ⟨h.fv.keep ho (fun k hk => hB k (.inl (.inl hk))) (fun k hk => hB k (.inl (.inr (.inl hk)))) (hB _ (.inl (.inr (.inr (.inl rfl))))) (hB _ (.inl (.inr (.inr (.inr rfl))))), h.has.keep ho (hB _ (.inr rfl)), h.nx⟩
theorem ST.c0 (h : ST q w x op S) : w.cell? ⟨x, 0, none⟩ = some (.pointer (some ⟨q.f, 0, none⟩)) := by rw [h.has.cell]; rfl
theorem ST.new {k : Nat} (h : ST q w x op S) (hk : w.heap.size ≤ k) : ¬ q.S k := fun c => by have := h.fv.Alt k (Gnd.S_A c); omega
theorem Only.toS (ho : Only (fun _ => False) w w') : Only q.S w w' := ho.mono (fun _ _ h => h.elim)
theorem Only.andS {w1 w2 : World} (o1 : Only q.S w w1) (o2 : Only (fun _ => False) w1 w2) : Only q.S w w2 := o1.trans o2 (fun _ _ h => h.elim)
theorem Only.ss {w1 w2 : World} (o1 : Only q.S w w1) (o2 : Only q.S w1 w2) : Only q.S w w2 := o1.trans o2 (fun _ _ h => h)
end
/-- Entries in memory. -/
def kcs : List KV → List Value
  | [] => []
  | e :: r => [.string e.1, .string e.2] ++ kcs r
theorem kcs_app (l r : List KV) : kcs (l ++ r) = kcs l ++ kcs r := by
  induction l with
  | nil => rfl
  | cons a t ih => simp [kcs, ih]
theorem kcs_at : ∀ (l : List KV) (i : Nat) {e : KV}, l[i]? = some e → (kcs l)[i * 2]? = some (.string e.1) ∧ (kcs l)[i * 2 + 1]? = some (.string e.2)
  | [], i, e, h => by simp at h
  | f :: r, 0, e, h => by
    obtain rfl : f = e := by simpa using h
    exact ⟨rfl, rfl⟩
  | f :: r, i + 1, e, h => by
    have := kcs_at r i (e := e) (by simpa using h)
    have e : (i + 1) * 2 = i * 2 + 2 := by omega
    rw [e]
    exact this
theorem kcs_len (l : List KV) : (kcs l).length = l.length * 2 := by
  induction l with
  | nil => rfl
  | cons a r ih => simp [kcs, ih]; omega
def OwnE (w : World) (v : Value) (l : List KV) : Prop := w.ownsRow 0 271 2 v l.length (kcs l)
theorem OwnE.keep {B : Nat → Prop} {w w' : World} {v : Value} {l : List KV} (h : OwnE w v l) (ho : Only B w w') (hB : ∀ k, v.ownBlock = some k → ¬ B k) : OwnE w' v l := ownsRow_keep h ho hB
theorem OwnE.at_ {w : World} {v : Value} {l : List KV} (h : OwnE w v l) {i : Nat} {x : KV} (hx : l[i]? = some x) : ∃ g cap, v = .slice (some ⟨g, 0, none⟩) l.length cap ∧ w.cell? ⟨g, i * 2, none⟩ = some (.string x.1) ∧ w.cell? ⟨g, i * 2 + 1, none⟩ = some (.string x.2) := by
  obtain ⟨h1, h2⟩ := kcs_at l i hx
  have hl := (List.getElem?_eq_some_iff.mp hx).1
  rcases h.2 with ⟨hv, hn⟩ | ⟨g, cap, cur, hv, _, hh, _⟩
  · omega
  · subst hv
    have hc := h.cells (g := g) rfl
    refine ⟨g, cap, rfl, ?_, ?_⟩
    · have := hc _ _ h1; rw [addr_add] at this; exact this
    · have := hc _ _ h2; rw [addr_add] at this; exact this
theorem Tryz.infoEKV : (Tryz.prog.info? 271).map (fun i => (i.zero, i.size, i.bytes)) = some (some (.agg #[.string ⟨#[]⟩, .string ⟨#[]⟩]), 2, 32) := by kernel_rfl
/-- What Seek and Next answer. -/
theorem seekS_eq (S : Vu) (h : Int) (k : ByteArray) (past : Bool) : ∃ c : Int, seekS S h k past = .tuple #[.agg #[.string ((seekL k past (Lz S h)).getD kvD).1, .string ((seekL k past (Lz S h)).getD kvD).2], .int .i64 c] ∧ (c = 0 ↔ (seekL k past (Lz S h)).isSome = true) := by
  unfold seekS Lz
  cases hz : Vz S h with
  | none => exact ⟨7, rfl, by simp [seekL]⟩
  | some l =>
    simp only [Option.getD_some]
    refine ⟨seC (seekL k past l), rfl, ?_⟩
    cases seekL k past l with
    | none => simp [seC]
    | some e => simp [seC]
theorem gt_lt (a b : ByteArray) : (!Op.bytesLess a.toList b.toList && !(a.toList == b.toList)) = lt b a := by
  show (!lt a b && !(a.toList == b.toList)) = lt b a
  rcases lt_total a b with c | c | c
  · rw [c, lt_asymm c]; rfl
  · subst c; rw [lt_irr]; simp
  · rw [c, lt_asymm c, seq_f (fun e => lt_ne c e.symm)]; rfl
section
variable {q : Gnd} {w : World} {x : Nat} {op : Bool} {S : Vu}
theorem eseek_any (H : ST q w x op S) (h : Int) (k : ByteArray) (past : Bool) (F : Nat) (hF : F = if past then 319 else 317) : Calls Tryz.prog F #[.pointer (some ⟨q.f, 0, none⟩), .int .i64 h, .string k] w fun e w' => ∃ (a b : ByteArray) (c : Int), e = .returned (.tuple #[.agg #[.string a, .string b], .int .i64 c]) ∧ (a, b) = (seekL k past (Lz S h)).getD kvD ∧ (c = 0 ↔ (seekL k past (Lz S h)).isSome = true) ∧ ST q w' x op S ∧ Only q.S w w' := by
  obtain ⟨c, e1, e2⟩ := seekS_eq S h k past
  cases past with
  | true =>
    subst hF
    refine (vnext_any H.fv h k).mono ?_
    rintro e w' ⟨rfl, A, o⟩
    exact ⟨((seekL k true (Lz S h)).getD kvD).1, ((seekL k true (Lz S h)).getD kvD).2, c, by rw [e1], rfl, e2, H.turn A o, o⟩
  | false =>
    subst hF
    refine (vseek_any H.fv h k).mono ?_
    rintro e w' ⟨rfl, A, o⟩
    exact ⟨((seekL k false (Lz S h)).getD kvD).1, ((seekL k false (Lz S h)).getD kvD).2, c, by rw [e1], rfl, e2, H.turn A o, o⟩
/-- The walk of span stands before entry n of R. -/
structure SpI (q : Gnd) (w : World) (x : Nat) (op : Bool) (S : Vu) (R : List KV) (cap : Bool) (up : ByteArray) (g : Nat) (n : Nat) (v : Value) (a b : ByteArray) (c : Int) (wr : World) : Prop where
  st : ST q wr x op S
  on : Only q.S w wr
  own : OwnE wr v (R.take n)
  fr : Newer w v
  cell : Has wr g #[.string a, .string b] 271
  gw : w.heap.size ≤ g
  gv : ∀ k, v.ownBlock = some k → k ≠ g
  le : n ≤ R.length
  ab : (a, b) = (R[n]?).getD kvD
  c0 : c = 0 ↔ (R[n]?).isSome = true
  pas : ∀ i e, i < n → R[i]? = some e → stopP cap up e = false
/-- Entry n is laid; the next is not yet sought. -/
structure SpM (q : Gnd) (w : World) (x : Nat) (op : Bool) (S : Vu) (R : List KV) (cap : Bool) (up : ByteArray) (g : Nat) (n : Nat) (v : Value) (a b : ByteArray) (wr : World) : Prop where
  st : ST q wr x op S
  on : Only q.S w wr
  own : OwnE wr v (R.take (n + 1))
  fr : Newer w v
  cell : Has wr g #[.string a, .string b] 271
  gw : w.heap.size ≤ g
  gv : ∀ k, v.ownBlock = some k → k ≠ g
  pas : ∀ i e, i < n + 1 → R[i]? = some e → stopP cap up e = false
  vl : ∀ k, v.ownBlock = some k → k < wr.heap.size
  H : ST q w x op S
theorem SpM.mk' (H : ST q w x op S) {R : List KV} {cap : Bool} {up : ByteArray} {g n : Nat} {v v' : Value} {a b : ByteArray} {c : Int} {wr w' : World} {o : Obj} (I : SpI q w x op S R cap up g n v a b c wr) (hR : R[n]? = some (a, b)) (hz : stopP cap up (a, b) = false)
    (hown : w'.ownsRow 0 271 2 v' (n + 1) (kcs (R.take n) ++ [.string a, .string b])) (hgrow : (wr.alloc o).grownBy w' v.ownBlock) (hwh : ∀ k, v'.ownBlock = some k → v.ownBlock = some k ∨ k = wr.heap.size + 1) : SpM q w x op S R cap up g n v' a b w' := by
  have hn := (List.getElem?_eq_some_iff.mp hR).1
  have oB : Only (fun k => v.ownBlock = some k) wr w' := ((Only.refl _ wr).alloc o).grown hgrow (fun k hk _ => hk)
  have hA := H.fv.Alt
  have hx := H.has.lt
  have hfr := I.fr
  have hs := I.on.size
  have gl := I.cell.lt
  have htk : R.take (n + 1) = R.take n ++ [(a, b)] := by
    rw [List.take_succ_eq_append_getElem hn]
    rw [List.getElem?_eq_getElem hn] at hR
    rw [Option.some.inj hR]
  refine ⟨I.st.keep oB (fun k hk hv => ?_), I.on.trans oB (fun k hk hv => ?_), ?_, fun k hk => ?_, I.cell.keep oB (fun hv => I.gv g hv rfl), I.gw, fun k hk => ?_, fun i e hi he => ?_, ownsRow_lt hown, H⟩
  · have := hfr k hv
    rcases hk with d | d
    · have := hA k d; omega
    · omega
  · have := hfr k hv; omega
  · unfold OwnE
    rw [htk, kcs_app, List.length_append, List.length_take, Nat.min_eq_left I.le]
    exact hown
  · rcases hwh k hk with d | d
    · exact hfr k d
    · omega
  · rcases hwh k hk with d | d
    · exact I.gv k d
    · omega
  · by_cases d : i = n
    · subst d; rw [hR] at he; cases he; exact hz
    · exact I.pas i e (by omega) he
theorem SpM.cell3 {R : List KV} {cap : Bool} {up : ByteArray} {g n : Nat} {v : Value} {a b : ByteArray} {wr w3 : World} (M : SpM q w x op S R cap up g n v a b wr) (o : Only q.S wr.drew w3) : Has w3 g #[.string a, .string b] 271 :=
  M.cell.drew.keep o (M.H.new M.gw)
theorem SpM.next {R : List KV} {cap : Bool} {up : ByteArray} {g n : Nat} {v : Value} {a b a2 b2 : ByteArray} {c2 : Int} {wr w3 : World} (M : SpM q w x op S R cap up g n v a b wr) (hR : R[n]? = some (a, b)) (o : Only q.S wr.drew w3) (st : ST q w3 x op S) (hab : (a2, b2) = (R[n + 1]?).getD kvD) (hc : c2 = 0 ↔ (R[n + 1]?).isSome = true) :
    SpI q w x op S R cap up g (n + 1) v a2 b2 c2 ((w3.setCell ⟨g, 0, none⟩ (.string a2)).setCell ⟨g, 1, none⟩ (.string b2)) := by
  have oo : Only (fun k => k = g) w3 ((w3.setCell ⟨g, 0, none⟩ (.string a2)).setCell ⟨g, 1, none⟩ (.string b2)) := (only1 _ _).trans (only1 _ _) (fun _ _ h => h)
  have hA := M.H.fv.Alt
  have hx := M.H.has.lt
  have gw := M.gw
  have o1 : Only q.S w w3 := (M.on.drew).trans o (fun _ _ h => h)
  refine ⟨st.keep oo (fun k hk e => ?_), o1.trans oo (fun k hk e => by omega), ?_, M.fr, ?_, gw, M.gv, (List.getElem?_eq_some_iff.mp hR).1, hab, hc, M.pas⟩
  · rcases hk with d | d
    · have := hA k d; omega
    · omega
  · refine (OwnE.keep (M.own) (Only.trans (S := q.S) (Only.refl _ wr).drew o (fun _ _ h => h)) (fun k hk => M.H.new (M.fr k hk))).keep oo (fun k hk e => M.gv k hk e)
  · have := ((M.cell3 o).setCell 0 (.string a2)).setCell 1 (.string b2)
    exact this
theorem SpI.start (H : ST q w x op S) (R : List KV) (cap : Bool) (up : ByteArray) {g : Nat} {a b : ByteArray} {c : Int} {wr : World} (st : ST q wr x op S) (on : Only q.S w wr) (cell : Has wr g #[.string a, .string b] 271) (gw : w.heap.size ≤ g) (ab : (a, b) = (R[0]?).getD kvD) (c0 : c = 0 ↔ (R[0]?).isSome = true) : SpI q w x op S R cap up g 0 (.slice none 0 0) a b c wr :=
  ⟨st, on, by rw [List.take_zero]; exact World.ownsRow_nil _ _ _ _, fun k hk => by simp [Value.ownBlock] at hk, cell, gw, fun k hk => by simp [Value.ownBlock] at hk, Nat.zero_le _, ab, c0, fun i e hi => by omega⟩
set_option maxRecDepth 100000 in
set_option maxHeartbeats 4000000 in
theorem espan_any (H : ST q w x op S) (h : Int) (fr : ByteArray) (cap : Bool) (up : ByteArray) : Calls Tryz.prog 254 #[.pointer (some ⟨x, 0, none⟩), .int .i64 h, .string fr, .bool cap, .string up] w fun e w' => ∃ v, e = .returned v ∧ OwnE w' v (spanP (Lz S h) fr cap up) ∧ Newer w v ∧ ST q w' x op S ∧ Only q.S w w' := by
  obtain ⟨i0, hi0, hz0, hz1, hz2⟩ := info_parts Tryz.infoEKV
  have hsrt := H.fv.ok.lsrt h
  have hlen := H.fv.ok.len h
  have C1 := hide (eseek_any H h fr false 317 rfl)
  have CN := hide (fun (wr : World) (Hr : ST q wr x op S) k => eseek_any Hr h k true 319 rfl)
  have c0 := H.c0
  have hfirst := seek_first fr (Lz S h)
  obtain ⟨m, hm, hdrop⟩ := dropWhile_drop (fun e : KV => lt e.1 fr) (Lz S h)
  have HSP := hide (show spanP (Lz S h) fr cap up = (((Lz S h).drop m).takeWhile (fun e => !stopP cap up e)) from by unfold spanP; rw [hdrop])
  have HNX := hide (fun (n : Nat) (e : KV) (he : ((Lz S h).drop m)[n]? = some e) => show seekL e.1 true (Lz S h) = ((Lz S h).drop m)[n + 1]? from by
    rw [List.getElem?_drop] at he ⊢
    have := seek_next hsrt he
    rw [this]
    rfl)
  have HF := hide (show seekL fr false (Lz S h) = ((Lz S h).drop m)[0]? from by rw [hfirst, hdrop])
  have hRl : ((Lz S h).drop m).length ≤ 64 := by rw [List.length_drop]; omega
  generalize (Lz S h).drop m = R at *
  have HH := hide H
  clear hfirst hdrop hm H hsrt hlen
  go_enter Tryz.func254, Tryz.ntmps254
  go_wp2_with fail
  refine (unhide C1).mono ?_
  rintro e w1 ⟨a, b, c, rfl, hab, hc, st1, o1⟩
  rw [unhide HF] at hab hc
  have hs1 := o1.size
  have HS := hide (SpI.start (unhide HH) R cap up (g := w1.heap.size) (st1.quiet ((Only.refl _ w1).alloc (.cells #[.string a, .string b] 271))) (o1.andS ((Only.refl _ w1).alloc (.cells #[.string a, .string b] 271))) (Has.new _ _ _) hs1 hab hc)
  have hgn : w1.heap.size < (w1.alloc (.cells #[.string a, .string b] 271)).heap.size := by simp
  clear C1 st1 o1 hab hc
  go_upto_region 4 with fail
  generalize w1.alloc (.cells #[.string a, .string b] 271) = w2 at *
  generalize w1.heap.size = g at *
  go_loopw [11, 13, 14] (fun ov cv nv wr => ∃ (n : Nat) (v : Value) (a b : ByteArray) (c : Int), v = ov ∧ nv = .int .i64 n ∧ cv = .int .i64 c ∧ SpI q w x op S R cap up g n v a b c wr) (fun _ _ nv _ => 65 - (intOf nv).toNat)
  case atStart => exact ⟨0, _, a, b, c, rfl, rfl, rfl, unhide HS⟩
  case round =>
    clear HS hgn hs1
    obtain ⟨n, ov, a, b, c, hov, rfl, rfl, I⟩ := hrel
    subst hov
    cases hR : R[n]? with
    | none =>
      have hc : c ≠ 0 := fun e => by have := I.c0.mp e; rw [hR] at this; cases this
      have hcb : (c == 0) = false := by simpa using hc
      have hn : n = R.length := by
        have := I.le
        rcases Nat.lt_or_ge n R.length with d | d
        · rw [List.getElem?_eq_getElem d] at hR; cases hR
        · omega
      have HE := hide (show OwnE wr ov (spanP (Lz S h) fr cap up) from by
        rw [unhide HSP, takeWhile_take _ R n (fun i y hi hy => by rw [I.pas i y hi hy]; rfl) I.le (fun y hy => by rw [hR] at hy; cases hy)]
        exact I.own)
      have HI := hide I
      obtain ⟨ra, rc, rfl⟩ := ownsRow_shape I.own
      clear I hc
      by_cases h64 : n < 64
      · have a1 : decide ((n : Int) < 64) = true := decide_eq_true (by omega)
        clear hn
        go_wp2_with fail
        go_ret
        exact ⟨_, rfl, unhide HE, (unhide HI).fr, (unhide HI).st, (unhide HI).on⟩
      · have a1 : decide ((n : Int) < 64) = false := decide_eq_false (by omega)
        clear hn
        go_wp2_with fail
        go_ret
        exact ⟨_, rfl, unhide HE, (unhide HI).fr, (unhide HI).st, (unhide HI).on⟩
    | some e =>
      obtain ⟨ek, ev⟩ := e
      have hc : c = 0 := I.c0.mpr (by rw [hR]; rfl)
      have hn := (List.getElem?_eq_some_iff.mp hR).1
      have hab := I.ab
      rw [hR] at hab
      simp only [Option.getD_some, Prod.mk.injEq] at hab
      obtain ⟨rfl, rfl⟩ := hab
      subst hc
      have a1 : decide ((n : Int) < 64) = true := decide_eq_true (by omega)
      have k0 := I.cell.cell 0
      have k1 := I.cell.cell 1
      simp at k0 k1
      have c1 := I.st.c0
      have CFr := hide (show Calls Tryz.prog 318 #[.string a] wr fun e w' => e = .returned (.string (frontP a)) ∧ wr = w' from efront_any a wr)
      obtain ⟨z, hz⟩ : ∃ z, stopP cap up (a, b) = z := ⟨_, rfl⟩
      have HZ := hide hz
      have HI := hide I
      have hown : wr.ownsRow 0 271 2 ov n (kcs (R.take n)) := by
        have := I.own
        unfold OwnE at this
        rw [List.length_take, Nat.min_eq_left I.le] at this
        exact this
      obtain ⟨ra, rc, rfl⟩ := ownsRow_shape hown
      have HOW := hide hown
      clear I hown hz
      go_upto_region 6 with fail
      go_cut [40] (fun zv wx => zv = .bool z ∧ wx = wr)
      case first =>
        cases cap with
        | false =>
          have hzf : z = false := (unhide HZ).symm
          go_wp2_with fail
          go_meet
          exact ⟨by rw [hzf], rfl⟩
        | true =>
          have hzf : z = lt up (frontP a) := (unhide HZ).symm
          generalize frontP a = fa at *
          go_wp2_with fail
          refine (unhide CFr).mono ?_
          rintro e w3 ⟨rfl, rfl⟩
          go_wp2_with fail
          go_meet
          exact ⟨by rw [hzf, ← gt_lt], rfl⟩
      case rest =>
      obtain ⟨rfl, rfl⟩ := hcut
      cases z with
      | true =>
        have HE := hide (show OwnE wc (.slice ra n rc) (spanP (Lz S h) fr cap up) from by
          rw [unhide HSP, takeWhile_take _ R n (fun i y hi hy => by rw [(unhide HI).pas i y hi hy]; rfl) (unhide HI).le (fun y hy => by rw [hR] at hy; cases hy; rw [unhide HZ]; rfl)]
          exact (unhide HI).own)
        go_wp2_with fail
        go_ret
        exact ⟨_, rfl, unhide HE, (unhide HI).fr, (unhide HI).st, (unhide HI).on⟩
      | false =>
        have own1 := unhide HOW
        have hn64 : n < 64 := by omega
        go_wp2_with (at_builtin; refine wpList_append2 _ rfl _ _ 268 rfl 271 i0 _ 2 32 Tryz.underlying268 hi0 hz0 hz1 hz2 rfl (by decide) _ _ _ rfl (own1.alloc _) ⟨wc.heap.size, 0, none⟩ 1 1 [.string a, .string b] rfl rfl ?c1 ?c2 ?c3 ?c4 ?_)
        case c1 => exact news_ok _ [.string a, .string b] 271 _ rfl
        case c2 => intro u hu; simp at hu; rcases hu with rfl | rfl <;> rfl
        case c3 => unfold maxLen; omega
        case c4 => omega
        intro v' w' hown hgrow hwhere
        have HN := hide (show SpM q w x op S R cap up g n v' a b w' from SpM.mk' (unhide HH) (unhide HI) hR (unhide HZ) hown hgrow hwhere)
        clear hown hgrow hwhere own1 HOW HI CFr k0 k1 c1
        have k0 := (unhide HN).cell.cell 0
        simp at k0
        have c1 := (unhide HN).st.c0
        have k1 := (unhide HN).cell.cell 1
        simp at k1
        have f0 := (unhide HN).cell.free 0
        have f1 := (unhide HN).cell.free 1
        have CN2 := hide (unhide CN w'.drew ((unhide HN).st.quiet ((Only.refl _ _).drew)) a)
        go_upto_region 9 with fail
        go_region_with (go_at_call 319; refine (unhide CN2).mono ?_; rintro e w3 ⟨a2, b2, c2, rfl, hab, hc, st3, o3⟩; rw [unhide HNX n _ hR] at hab hc; have K3 := (unhide HN).cell3 o3; have HF3 := hide ((unhide HN).next hR o3 st3 hab hc); clear hab hc st3 o3; have m0 := K3.cell 0; have m1 := K3.cell 1; have n0 := K3.free 0; have n1 := K3.free 1; simp at m0 m1; clear K3)
        all_goals
          clear HN CN2
          go_wp2_with fail
          go_roundw
          case rel => exact ⟨n + 1, v', a2, b2, c2, rfl, by go_num, rfl, unhide HF3⟩
          case measure => simp [intOf]; omega
end
end Go.Proofs.Qxb6500412aGreat
