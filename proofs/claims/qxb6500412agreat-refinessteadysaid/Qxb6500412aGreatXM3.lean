/-
  OWN WORK. TXN's MODEL: api.Multi: a table copied from one database into another; Take (written by tools/gen_xm3.py).
-/
import Derived.Test.Qxb6500412aGreatXM2
import Derived.Test.Qxb6500412aGreatMM6
namespace Go.Proofs.Qxb6500412aGreat
open Go.RowKit Go.PlainAid
set_option linter.unusedSimpArgs false
set_option linter.unusedVariables false

section
variable {w w' w3 : World} {k : Nat} {Z : Mm} {M : Mu} {s : Nat} {H : Nat → Prop}
/-- A table of one of its databases stored anew. -/
theorem MMt.setT {j b cap i : Nat} {e e' : GE} (h : MMt w k Z) (hj : j < 5) (hv : Z.v j = .slice (some ⟨b, 0, none⟩) (Z.l j).length cap) (hi : (Z.l j)[i]? = some e) (o3 : Only (fun _ => False) w w3) (E : GEl w3 e') (hn : e'.t.nm = e.t.nm) (hf : ∀ x, GEm e' x ∨ GEi e' x → w.heap.size ≤ x) : MMt (st5 w3 b i e') k (Z.setV j (Z.v j) ((Z.l j).set i e')) ∧ Only (fun x => x = b) w (st5 w3 b i e') := by
  have hM := h.ml j hj
  rw [hv] at hM
  obtain ⟨hM2, o2⟩ := hM.setT hi o3 E hn hf
  have hb : MLm (Z.v j) (Z.l j) b := .inl (by rw [hv]; rfl)
  refine ⟨h.setV hj o2 (fun x e => .inr (by have e' : x = b := e; rw [e']; exact hb)) ?_ (by rw [hv]; exact hM2) (fun x hx => ?_), o2⟩
  · have hsame : (tabV 21 (mmC Z))[offM j]? = some (Z.v j) := by rw [tabV_get _ _ _ (offM_lt hj), mmC_off hj]
    rw [set_same hsame]
    exact h.has.keep o2 (fun e => h.ne hj b (.inl hb) e.symm)
  · rcases hx with hx | ⟨y, hy, hx⟩
    · exact .inl (.inl hx)
    · rcases List.mem_or_eq_of_mem_set hy with hy | rfl
      · exact .inl (.inr ⟨y, hy, hx⟩)
      · exact .inr (hf x (.inl hx))
/-- A table of database j, at place i, copied from the table es: what CloneTable must answer in the midst of the drawn region. -/
def CpQ (w : World) (k : Nat) (Z : Mm) (j b i : Nat) (t : Tb) (w4 : World) : Prop := ∃ e' : GE, e'.t = t ∧ MMt w4 k (Z.setV j (Z.v j) ((Z.l j).set i e')) ∧ (∀ x, GEm e' x ∨ GEi e' x → w.heap.size ≤ x) ∧ Only (fun x => x = b) w w4
def CpP (w : World) (k : Nat) (Z : Mm) (j o b lp pcap i : Nat) (t : Tb) (x : Ending) (w3 : World) : Prop :=
  ∃ (x0 : ByteArray) (x1 : Option Addr) (n1 q1 : Nat) (x2 x3 : Int) (x4 : Option Addr) (n4 q4 : Nat) (y0 y1 y2 y3 y4 : Value), x = .returned (.agg #[.string x0, .slice x1 n1 q1, .int .i64 x2, .int .i64 x3, .slice x4 n4 q4]) ∧
              w3.cell? ⟨k, o, none⟩ = some (.slice (some ⟨b, 0, none⟩) lp pcap) ∧ (w3.cell? ⟨b, i * 5, none⟩ = some y0 ∧ w3.cell? ⟨b, i * 5 + 1, none⟩ = some y1 ∧ w3.cell? ⟨b, i * 5 + 2, none⟩ = some y2 ∧ w3.cell? ⟨b, i * 5 + 3, none⟩ = some y3 ∧ w3.cell? ⟨b, i * 5 + 4, none⟩ = some y4) ∧ (w3.frozen? ⟨b, i * 5, none⟩ = false ∧ w3.frozen? ⟨b, i * 5 + 1, none⟩ = false ∧ w3.frozen? ⟨b, i * 5 + 2, none⟩ = false ∧ w3.frozen? ⟨b, i * 5 + 3, none⟩ = false ∧ w3.frozen? ⟨b, i * 5 + 4, none⟩ = false) ∧ k < w3.heap.size ∧ b < w3.heap.size ∧
              Hid (CpQ w k Z j b i t (((((w3.setCell ⟨b, i * 5, none⟩ (.string x0)).setCell ⟨b, i * 5 + 1, none⟩ (.slice x1 n1 q1)).setCell ⟨b, i * 5 + 2, none⟩ (.int .i64 x2)).setCell ⟨b, i * 5 + 3, none⟩ (.int .i64 x3)).setCell ⟨b, i * 5 + 4, none⟩ (.slice x4 n4 q4)))
theorem copyC {j o b lp cap i : Nat} {e es : GE} (h : MMt w k Z) (hj : j < 5) (ho : offM j = o) (hv : Z.v j = .slice (some ⟨b, 0, none⟩) (Z.l j).length cap) (hlp : (Z.l j).length = lp) (hi : (Z.l j)[i]? = some e) (E : GEl w es) (hn : es.t.nm = e.t.nm) : Calls Tryz.prog 178 #[tbA es] w.drew (CpP w k Z j o b lp cap i es.t) := by
  have d1 : Only (fun _ => False) w w.drew := (Only.refl _ w).drew
  refine (mcloneTable_any (E.keep d1 (fun _ _ e => e) (fun _ _ e => e))).mono ?_
  rintro x w3 ⟨e', rfl, E', ht, hfr, o3⟩
  obtain ⟨ca', cc', hcv'⟩ := E'.col.shape
  obtain ⟨ra', rc', hrv'⟩ := E'.rshape
  have o13 : Only (fun _ => False) w w3 := d1.trans o3 (fun _ _ e => e)
  have hfw : ∀ x, GEm e' x ∨ GEi e' x → w.heap.size ≤ x := fun x hx => Nat.le_trans d1.size (hfr x hx)
  obtain ⟨T1, T2⟩ := h.setT hj hv hi o13 E' (by rw [ht]; exact hn) hfw
  have h3 := h.quiet o13
  have M3 := h3.ml j hj
  obtain ⟨b', cap', hv', Q, _⟩ := M3.pt hi
  rw [hv] at hv'
  obtain ⟨rfl, rfl⟩ : b = b' ∧ cap = cap' := by
    simp only [Value.slice.injEq, Option.some.injEq, Addr.mk.injEq] at hv'
    exact ⟨hv'.1.1, hv'.2.2⟩
  have own3 := M3.own
  rw [hv] at own3
  have c3 := h3.cell (offM_lt hj)
  rw [mmC_off hj, hv, hlp, ho] at c3
  unfold tbA
  rw [hcv', hrv']
  refine ⟨_, _, _, _, _, _, _, _, _, _, _, _, _, _, rfl, c3, ⟨Q.c0, Q.c1, Q.c2, Q.c3, Q.c4⟩, ⟨gownFree own3 _, gownFree own3 _, gownFree own3 _, gownFree own3 _, gownFree own3 _⟩, h3.has.lt, M3.lt b (.inl (.inl (by rw [hv]; rfl))), hide ?_⟩
  unfold st5 at T1 T2
  rw [hcv', hrv'] at T1 T2
  exact ⟨e', ht, T1, hfw, T2⟩
/-- Session j bars session n. -/
def Mu.barJ (M : Mu) (n : Nat) (nm : ByteArray) (mode : Int) (j : Nat) : Prop := j ≠ n ∧ (M.lk j nm = 2 ∨ (mode = 2 ∧ M.lk j nm ≠ 0))
/-- What Take leaves. -/
def MtP (w : World) (k : Nat) (M : Mu) (H : Nat → Prop) (s : Int) (nm : ByteArray) (mode : Int) (e : Ending) (w' : World) : Prop :=
  (∃ z, e = .returned (.int .i64 z) ∧ z ≠ 0 ∧ M.TkZ s nm mode z ∧ w = w') ∨ (e = .returned (.int .i64 0) ∧ M.TkZ s nm mode 0 ∧ MX w' k (M.setL s.toNat nm mode) (Ext H w w') ∧ Only H w w')
theorem Mm.setTA {Z : Mm} {k j i : Nat} {e' : GE} {b lo : Nat} (hj : j < 5) (h : (Z.setV j (Z.v j) ((Z.l j).set i e')).A k b) (hf : ∀ x, GEm e' x ∨ GEi e' x → lo ≤ x) : Z.A k b ∨ lo ≤ b := by
  rcases Mm.setV_A h with c | c | c
  · exact .inl c
  · rcases c with c | ⟨y, hy, c⟩
    · exact .inl (.inl (.inr ⟨j, hj, .inl c⟩))
    · rcases List.mem_or_eq_of_mem_set hy with hy | rfl
      · exact .inl (.inl (.inr ⟨j, hj, .inr ⟨y, hy, c⟩⟩))
      · exact .inr (hf b (.inl c))
  · obtain ⟨y, hy, c⟩ := c
    rcases List.mem_or_eq_of_mem_set hy with hy | rfl
    · exact .inl (.inr ⟨j, hj, ⟨y, hy, c⟩⟩)
    · exact .inr (hf b (.inr c))
/-- The lock set behind the copy. -/
theorem MX.lock (X : MX w k M H) {Z1 : Mm} {w1 : World} {n i : Nat} {t : Tb} {mode : Int} (hn : n < 4) (h1 : MMt w1 k Z1) (hS : MmS Z1 M) (hA : ∀ b, Z1.A k b → H b ∨ w.heap.size ≤ b) (o1 : Only H w w1) (ha : M.act n = true) (hi : M.com[i]? = some t) (hm : M.lk n t.nm < mode) (h2 : mode = 2 → (Z1.db (1 + n))[i]? = some t) (h12 : mode = 1 ∨ mode = 2) : MX (w1.setCell ⟨k, 5 + n * 3 + i, none⟩ (.int .i64 mode)) k (M.setL n t.nm mode) (Ext H w (w1.setCell ⟨k, 5 + n * 3 + i, none⟩ (.int .i64 mode))) ∧ Only H w (w1.setCell ⟨k, 5 + n * 3 + i, none⟩ (.int .i64 mode)) :=
  X.turn (h1.setK hn (hS.i3 hi) mode) (hS.lock hn ha hi (by rw [← hS.lk n i t hn hi]; exact hm) h2 h12) (fun b hb => hA b hb) (o1.trans (only1 (p := k) _ _) (fun b _ e => by have e' : b = k := e; rw [e']; exact X.kH)) (fun _ h => h)
set_option maxRecDepth 100000 in
set_option maxHeartbeats 8000000 in
theorem xmtake1_any (X : MX w k M H) (s : Int) (nm : ByteArray) : Calls Tryz.prog 329 #[.pointer (some ⟨k, 0, none⟩), .int .i64 s, .string nm, .int .i64 1] w (MtP w k M H s nm 1) := by
  have C1 := xgood_any s w
  by_cases hs : gdS s
  · rw [decide_eq_true hs] at C1
    obtain ⟨n, rfl⟩ : ∃ n : Nat, s = n := ⟨s.toNat, by have := hs.1; omega⟩
    have hn : n < 4 := by have := hs.2; omega
    have n4 : (n : Int) < 4 := by omega
    have en : ((n : Nat) : Int).toNat = n := by omega
    have HX := hide X
    obtain ⟨Z, h, hS, hA⟩ := X.ex
    have a0 := h.cA hn
    have kl := h.has.lt
    have C1 := hide C1
    have eA := hS.act n hn
    cases hb : M.act n with
    | false =>
      rw [← eA, hb] at a0
      have FF := hide (show MtP w k M H (n : Int) nm 1 (.returned (.int .i64 2)) w from .inl ⟨2, rfl, by omega, .inl ⟨by rw [inT_off hn hb]; omega, by rw [inT_off hn hb]⟩, rfl⟩)
      clear X h hS hA hs hb eA
      go_enter Tryz.func329, Tryz.ntmps329
      go_wp2_with fail
      refine (unhide C1).mono ?_
      rintro e w2 ⟨rfl, rfl⟩
      go_wp2_with fail
      go_ret
      exact unhide FF
    | true =>
      rw [← eA, hb] at a0
      have CF := hide (mfind_any h.c0 (h.ml 0 (by omega)) nm)
      have HH := hide (And.intro h (And.intro hS (And.intro hA hb)))
      clear X h hS hA hs hb eA
      go_enter Tryz.func329, Tryz.ntmps329
      go_wp2_with fail
      refine (unhide C1).mono ?_
      rintro e w2 ⟨rfl, rfl⟩
      clear C1
      go_wp2_with fail
      refine (unhide CF).mono ?_
      rintro e w2 ⟨r, rfl, hr, rfl⟩
      clear CF a0
      by_cases r0 : r < 0
      · have dr : decide (r < 0) = true := decide_eq_true r0
        have FF := hide (show MtP w k M H (n : Int) nm 1 (.returned (.int .i64 10)) w from .inl ⟨10, rfl, by omega, .inr (.inl ⟨inT_on hn (unhide HH).2.2.2, hr.mno (unhide HH).2.1.com (unhide HH).2.1.cok r0, rfl⟩), rfl⟩)
        clear hr r0
        go_wp2_with fail
        go_ret
        exact unhide FF
      obtain ⟨i, e, rfl, hi, hnm, hf, hm⟩ := hr.myes (unhide HH).2.1.com (unhide HH).2.1.cok (by omega)
      have hci : M.com[i]? = some e.t := (unhide HH).2.1.com_at hi
      have i3n : i < 3 := (unhide HH).2.1.i3 hci
      have i3 : (i : Int) < 3 := by omega
      have dr : decide ((i : Int) < 0) = false := decide_eq_false (by omega)
      have HI := hide (And.intro hi (And.intro hnm (And.intro hci hf)))
      have HLK := hide (fun (j : Nat) (hj : j < 4) => (show w.cell? ⟨k, 5 + j * 3 + i, none⟩ = some (.int .i64 (M.lk j nm)) from by rw [← hnm, (unhide HH).2.1.lk j i e.t hj hci]; exact (unhide HH).1.cK hj i3n))
      clear hr r0 hi hnm hf hm hci
      go_upto_region 9 with fail
      go_loop [10] (fun jv => ∃ o : Nat, jv = .int .i64 o ∧ o ≤ 4 ∧ ∀ j, j < o → ¬ M.barJ n nm 1 j) (fun jv => 5 - (intOf jv).toNat)
      case atStart => exact ⟨0, rfl, by omega, fun j hj => by omega⟩
      case round =>
        obtain ⟨o, rfl, ho, hne⟩ := hrel
        have HN := hide hne
        clear hne
        by_cases ho4 : o < 4
        · have a1 : decide ((o : Int) < 4) = true := decide_eq_true (by omega)
          have o4 : (o : Int) < 4 := by omega
          have d0 := unhide HLK o ho4
          have next : ¬ M.barJ n nm 1 o → ∀ j, j < o + 1 → ¬ M.barJ n nm 1 j := fun h j hj => by
            by_cases e : j = o
            · subst e; exact h
            · exact unhide HN j (by omega)
          by_cases h1 : o = n
          · have b1 : ((o : Int) != (n : Int)) = false := by simp [h1]
            have HN2 := hide (next (fun h => h.1 h1))
            clear h1 next
            go_wp2_with fail
            go_round
            case rel => exact ⟨o + 1, by go_num, by omega, unhide HN2⟩
            case measure => simp [intOf]; omega
          · have b1 : ((o : Int) != (n : Int)) = true := by simp; omega
            obtain ⟨z, hz⟩ : ∃ z : Int, M.lk o nm = z := ⟨_, rfl⟩
            rw [hz] at d0
            by_cases h2 : z = 2
            · subst h2
              have FF := hide (show MtP w k M H (n : Int) nm 1 (.returned (.int .i64 21)) w from .inl ⟨21, rfl, by omega, .inr (.inr (.inl ⟨inT_on hn (unhide HH).2.2.2, by rw [(unhide HI).2.2.2]; simp, ⟨o, ho4, by rw [en]; exact h1, .inl hz⟩, rfl⟩)), rfl⟩)
              clear h1 hz next
              go_wp2_with fail
              go_ret
              exact unhide FF
            · have b2 : (z == 2) = false := ne_intO h2
              have HN2 := hide (next (fun h => h.2.elim (fun e => h2 (hz.symm.trans e)) (fun e => by omega)))
              clear h1 hz next h2
              go_wp2_with fail
              go_round
              case rel => exact ⟨o + 1, by go_num, by omega, unhide HN2⟩
              case measure => simp [intOf]; omega
        · obtain rfl : o = 4 := by omega
          have HZ0 := hide (show M.TkZ (n : Int) nm 1 0 from .inr (.inr (.inr ⟨inT_on hn (unhide HH).2.2.2, by rw [(unhide HI).2.2.2]; simp, fun ⟨o, ho, hne, hx⟩ => unhide HN o ho ⟨by rw [en] at hne; exact hne, hx⟩, rfl⟩)))
          clear HN ho4
          have d0 := unhide HLK n hn
          have df := (unhide HH).1.fr (5 + n * 3 + i)
          obtain ⟨z, hz⟩ : ∃ z : Int, M.lk n nm = z := ⟨_, rfl⟩
          have HZ := hide hz
          rw [hz] at d0
          clear hz
          by_cases hlt : z < 1
          · have e1 : decide ((1 : Int) > z) = true := decide_eq_true hlt
            have e2 : decide (z < 1) = true := decide_eq_true hlt
            have FF := hide (show MtP w k M H (n : Int) nm 1 (.returned (.int .i64 0)) (w.setCell ⟨k, 5 + n * 3 + i, none⟩ (.int .i64 1)) from .inr ⟨rfl, unhide HZ0, by
              rw [en, ← (unhide HI).2.1]
              exact MX.lock (unhide HX) hn (unhide HH).1 (unhide HH).2.1 (fun b hb => .inl ((unhide HH).2.2.1 b hb)) (Only.refl _ _) (unhide HH).2.2.2 (unhide HI).2.2.1 (by rw [(unhide HI).2.1, unhide HZ]; omega) (fun c => by omega) (.inl rfl)⟩)
            clear hlt
            go_wp2_with fail
            go_ret
            exact unhide FF
          · have e1 : decide ((1 : Int) > z) = false := decide_eq_false hlt
            have e2 : decide (z < 1) = false := decide_eq_false hlt
            have FF := hide (show MtP w k M H (n : Int) nm 1 (.returned (.int .i64 0)) w from .inr ⟨rfl, unhide HZ0, by
              rw [en, Mu.setL_same (by rw [unhide HZ]; omega)]
              exact (unhide HX).turn (unhide HH).1 (unhide HH).2.1 (fun b hb => .inl ((unhide HH).2.2.1 b hb)) (Only.refl _ _) (fun _ h => h)⟩)
            clear hlt
            go_wp2_with fail
            go_ret
            exact unhide FF
  · rw [decide_eq_false hs] at C1
    have C1 := hide C1
    have FF := hide (show MtP w k M H s nm 1 (.returned (.int .i64 20)) w from .inl ⟨20, rfl, by omega, .inl ⟨by rw [inT_no hs]; omega, by rw [inT_no hs]⟩, rfl⟩)
    clear X hs
    go_enter Tryz.func329, Tryz.ntmps329
    go_wp2_with fail
    refine (unhide C1).mono ?_
    rintro e w2 ⟨rfl, rfl⟩
    go_wp2_with fail
    go_ret
    exact unhide FF
set_option maxRecDepth 100000 in
set_option maxHeartbeats 8000000 in
theorem xmtake2_any (X : MX w k M H) (ok : MuOk M) (s : Int) (nm : ByteArray) : Calls Tryz.prog 329 #[.pointer (some ⟨k, 0, none⟩), .int .i64 s, .string nm, .int .i64 2] w (MtP w k M H s nm 2) := by
  have HOK := hide ok
  clear ok
  have C1 := xgood_any s w
  by_cases hs : gdS s
  · rw [decide_eq_true hs] at C1
    obtain ⟨n, rfl⟩ : ∃ n : Nat, s = n := ⟨s.toNat, by have := hs.1; omega⟩
    have hn : n < 4 := by have := hs.2; omega
    have n4 : (n : Int) < 4 := by omega
    have en : ((n : Nat) : Int).toNat = n := by omega
    have HX := hide X
    obtain ⟨Z, h, hS, hA⟩ := X.ex
    have a0 := h.cA hn
    have kl := h.has.lt
    have C1 := hide C1
    have eA := hS.act n hn
    cases hb : M.act n with
    | false =>
      rw [← eA, hb] at a0
      have FF := hide (show MtP w k M H (n : Int) nm 2 (.returned (.int .i64 2)) w from .inl ⟨2, rfl, by omega, .inl ⟨by rw [inT_off hn hb]; omega, by rw [inT_off hn hb]⟩, rfl⟩)
      clear X h hS hA hs hb eA
      go_enter Tryz.func329, Tryz.ntmps329
      go_wp2_with fail
      refine (unhide C1).mono ?_
      rintro e w2 ⟨rfl, rfl⟩
      go_wp2_with fail
      go_ret
      exact unhide FF
    | true =>
      rw [← eA, hb] at a0
      have CF := hide (mfind_any h.c0 (h.ml 0 (by omega)) nm)
      have HH := hide (And.intro h (And.intro hS (And.intro hA hb)))
      clear X h hS hA hs hb eA
      go_enter Tryz.func329, Tryz.ntmps329
      go_wp2_with fail
      refine (unhide C1).mono ?_
      rintro e w2 ⟨rfl, rfl⟩
      clear C1
      go_wp2_with fail
      refine (unhide CF).mono ?_
      rintro e w2 ⟨r, rfl, hr, rfl⟩
      clear CF a0
      by_cases r0 : r < 0
      · have dr : decide (r < 0) = true := decide_eq_true r0
        have FF := hide (show MtP w k M H (n : Int) nm 2 (.returned (.int .i64 10)) w from .inl ⟨10, rfl, by omega, .inr (.inl ⟨inT_on hn (unhide HH).2.2.2, hr.mno (unhide HH).2.1.com (unhide HH).2.1.cok r0, rfl⟩), rfl⟩)
        clear hr r0
        go_wp2_with fail
        go_ret
        exact unhide FF
      obtain ⟨i, e, rfl, hi, hnm, hf, hm⟩ := hr.myes (unhide HH).2.1.com (unhide HH).2.1.cok (by omega)
      have hci : M.com[i]? = some e.t := (unhide HH).2.1.com_at hi
      have i3n : i < 3 := (unhide HH).2.1.i3 hci
      have i3 : (i : Int) < 3 := by omega
      have dr : decide ((i : Int) < 0) = false := decide_eq_false (by omega)
      have HI := hide (And.intro hi (And.intro hnm (And.intro hci hf)))
      have HLK := hide (fun (j : Nat) (hj : j < 4) => (show w.cell? ⟨k, 5 + j * 3 + i, none⟩ = some (.int .i64 (M.lk j nm)) from by rw [← hnm, (unhide HH).2.1.lk j i e.t hj hci]; exact (unhide HH).1.cK hj i3n))
      clear hr r0 hi hnm hf hm hci
      go_upto_region 9 with fail
      go_loop [10] (fun jv => ∃ o : Nat, jv = .int .i64 o ∧ o ≤ 4 ∧ ∀ j, j < o → ¬ M.barJ n nm 2 j) (fun jv => 5 - (intOf jv).toNat)
      case atStart => exact ⟨0, rfl, by omega, fun j hj => by omega⟩
      case round =>
        obtain ⟨o, rfl, ho, hne⟩ := hrel
        have HN := hide hne
        clear hne
        by_cases ho4 : o < 4
        · have a1 : decide ((o : Int) < 4) = true := decide_eq_true (by omega)
          have o4 : (o : Int) < 4 := by omega
          have d0 := unhide HLK o ho4
          have next : ¬ M.barJ n nm 2 o → ∀ j, j < o + 1 → ¬ M.barJ n nm 2 j := fun h j hj => by
            by_cases e : j = o
            · subst e; exact h
            · exact unhide HN j (by omega)
          by_cases h1 : o = n
          · have b1 : ((o : Int) != (n : Int)) = false := by simp [h1]
            have HN2 := hide (next (fun h => h.1 h1))
            clear h1 next
            go_wp2_with fail
            go_round
            case rel => exact ⟨o + 1, by go_num, by omega, unhide HN2⟩
            case measure => simp [intOf]; omega
          · have b1 : ((o : Int) != (n : Int)) = true := by simp; omega
            obtain ⟨z, hz⟩ : ∃ z : Int, M.lk o nm = z := ⟨_, rfl⟩
            rw [hz] at d0
            by_cases h2 : z = 2
            · subst h2
              have FF := hide (show MtP w k M H (n : Int) nm 2 (.returned (.int .i64 21)) w from .inl ⟨21, rfl, by omega, .inr (.inr (.inl ⟨inT_on hn (unhide HH).2.2.2, by rw [(unhide HI).2.2.2]; simp, ⟨o, ho4, by rw [en]; exact h1, .inl hz⟩, rfl⟩)), rfl⟩)
              clear h1 hz next
              go_wp2_with fail
              go_ret
              exact unhide FF
            · have b2 : (z == 2) = false := ne_intO h2
              by_cases h4 : z = 0
              · subst h4
                have HN2 := hide (next (fun h => h.2.elim (fun e => by rw [hz] at e; omega) (fun e => e.2 hz)))
                clear h1 hz next h2
                go_wp2_with fail
                go_round
                case rel => exact ⟨o + 1, by go_num, by omega, unhide HN2⟩
                case measure => simp [intOf]; omega
              · have b4 : (z != 0) = true := by simpa using h4
                have FF := hide (show MtP w k M H (n : Int) nm 2 (.returned (.int .i64 21)) w from .inl ⟨21, rfl, by omega, .inr (.inr (.inl ⟨inT_on hn (unhide HH).2.2.2, by rw [(unhide HI).2.2.2]; simp, ⟨o, ho4, by rw [en]; exact h1, .inr ⟨rfl, by rw [hz]; exact h4⟩⟩, rfl⟩)), rfl⟩)
                clear h1 hz next h2 h4
                go_wp2_with fail
                go_ret
                exact unhide FF
        · obtain rfl : o = 4 := by omega
          have HZ0 := hide (show M.TkZ (n : Int) nm 2 0 from .inr (.inr (.inr ⟨inT_on hn (unhide HH).2.2.2, by rw [(unhide HI).2.2.2]; simp, fun ⟨o, ho, hne, hx⟩ => unhide HN o ho ⟨by rw [en] at hne; exact hne, hx⟩, rfl⟩)))
          clear HN ho4
          have d0 := unhide HLK n hn
          have df := (unhide HH).1.fr (5 + n * 3 + i)
          obtain ⟨z, hz⟩ : ∃ z : Int, M.lk n nm = z := ⟨_, rfl⟩
          have HZ := hide hz
          rw [hz] at d0
          clear hz
          by_cases z2 : z = 2
          · subst z2
            have FF := hide (show MtP w k M H (n : Int) nm 2 (.returned (.int .i64 0)) w from .inr ⟨rfl, unhide HZ0, by
              rw [en, Mu.setL_same (by rw [unhide HZ]; omega)]
              exact (unhide HX).turn (unhide HH).1 (unhide HH).2.1 (fun b hb => .inl ((unhide HH).2.2.1 b hb)) (Only.refl _ _) (fun _ h => h)⟩)
            go_wp2_with fail
            go_ret
            exact unhide FF
          have b2 : (z != 2) = true := by simpa using z2
          have ML0 := (unhide HH).1.ml 0 (by omega)
          obtain ⟨cb, cap, hcv, P, E⟩ := ML0.pt (unhide HI).1
          have hact := (unhide HH).2.2.2
          obtain ⟨u, hu, hun⟩ := nms_at ((unhide HH).2.1.nms n hn hact) (unhide HI).2.2.1
          obtain ⟨ee, hee, heu⟩ : ∃ ee : GE, (Z.l (1 + n))[i]? = some ee ∧ ee.t = u := by
            unfold Mm.db at hu
            rw [List.getElem?_map] at hu
            cases c : (Z.l (1 + n))[i]? with
            | none => rw [c] at hu; cases hu
            | some ee => rw [c] at hu; exact ⟨ee, rfl, by simpa using hu⟩
          have MLP := (unhide HH).1.ml (1 + n) (by omega)
          obtain ⟨pb, pcap, hpv, P2, E2⟩ := MLP.pt hee
          have c0 := (unhide HH).1.c0
          have cp := (unhide HH).1.cP hn
          rw [hcv] at c0
          rw [hpv] at cp
          obtain ⟨ln, hln⟩ : ∃ x, (Z.l 0).length = x := ⟨_, rfl⟩
          obtain ⟨lp, hlp⟩ : ∃ x, (Z.l (1 + n)).length = x := ⟨_, rfl⟩
          have il : (i : Int) < (ln : Int) := by have := (List.getElem?_eq_some_iff.mp (unhide HI).1).1; omega
          have ip : (i : Int) < (lp : Int) := by have := (List.getElem?_eq_some_iff.mp hee).1; omega
          have CC := copyC (unhide HH).1 (j := 1 + n) (o := 17 + n) (by omega) offM_pos hpv hlp hee E (by rw [heu]; exact hun.symm)
          have HCQ := hide (fun (w4 : World) (hq : CpQ w k Z (1 + n) pb i e.t w4) => show ∃ Z1, MMt w4 k Z1 ∧ MmS Z1 M ∧ (∀ b, Z1.A k b → H b ∨ w.heap.size ≤ b) ∧ Only H w w4 ∧ (Z1.db (1 + n))[i]? = some e.t from by
            obtain ⟨e', ht, T1, hfw, T2⟩ := hq
            refine ⟨_, T1, ?_, fun b hb => ?_, T2.mono (fun b _ hb => ?_), ?_⟩
            · refine (unhide HH).2.1.copy hn hact (unhide HI).2.2.1 (fun c => z2 ?_) ?_
              · rw [← unhide HZ, ← (unhide HI).2.1, (unhide HH).2.1.lk n i e.t hn (unhide HI).2.2.1]; exact c
              · rw [List.map_set, ht]; rfl
            · exact (Mm.setTA (by omega) hb hfw).imp ((unhide HH).2.2.1 b) id
            · have hb' : b = pb := hb
              rw [hb']
              exact (unhide HH).2.2.1 pb (.inl (.inr ⟨1 + n, by omega, .inl (by rw [hpv]; rfl)⟩))
            · rw [Mm.setV_db, if_pos rfl, List.map_set, List.getElem?_set_self (by rw [List.length_map]; exact (List.getElem?_eq_some_iff.mp hee).1), ht])
          have p0 := P.c0
          have p1 := P.c1
          have p2 := P.c2
          have p3 := P.c3
          have p4 := P.c4
          obtain ⟨ca, cc, hec⟩ := E.col.shape
          obtain ⟨ra, rc, hrv⟩ := E.rshape
          unfold tbA at CC
          rw [hec, hrv] at CC
          rw [hec] at p1
          rw [hrv] at p4
          rw [hln] at c0
          rw [hlp] at cp
          have CC := hide CC
          have cbl : cb < w.heap.size := ML0.lt cb (.inl (.inl (by rw [hcv]; rfl)))
          have pbl : pb < w.heap.size := MLP.lt pb (.inl (.inl (by rw [hpv]; rfl)))
          have hrgk := hide (fun (w4 : World) (Z1 : Mm) (h1 : MMt w4 k Z1) (hS1 : MmS Z1 M) => (show w4.cell? ⟨k, 5 + n * 3 + i, none⟩ = some (.int .i64 z) ∧ w4.frozen? ⟨k, 5 + n * 3 + i, none⟩ = false ∧ k < w4.heap.size from ⟨by rw [← unhide HZ, ← (unhide HI).2.1, hS1.lk n i e.t hn (unhide HI).2.2.1]; exact h1.cK hn i3n, h1.fr _, h1.has.lt⟩))
          have HZL := hide (show z < 2 from by
            have := (unhide HOK).rg n nm hn
            rw [unhide HZ] at this
            omega)
          clear E E2 P P2 ML0 MLP hcv hpv hee heu hu hun hact hec hrv hln hlp
          go_upto_region 14 with fail
          clear d0 df
          go_region_with (go_at_call 178; refine (unhide CC).mono ?_; rintro x w3 ⟨x0, x1, n1, q1, x2, x3, x4, n4x, q4, y0, y1, y2, y3, y4, rfl, k17, ⟨k0, k1, k2, k3, k4⟩, ⟨f0, f1, f2, f3, f4⟩, kl3, pl3, HF⟩)
          all_goals
            go_upto_region 15 with fail
            generalize ((((w3.setCell ⟨pb, i * 5, none⟩ (.string x0)).setCell ⟨pb, i * 5 + 1, none⟩ (.slice x1 n1 q1)).setCell ⟨pb, i * 5 + 2, none⟩ (.int .i64 x2)).setCell ⟨pb, i * 5 + 3, none⟩ (.int .i64 x3)).setCell ⟨pb, i * 5 + 4, none⟩ (.slice x4 n4x q4) = w4 at *
            obtain ⟨Z1, m1, s1, b1, oo1, at1⟩ := unhide HCQ w4 (unhide HF)
            obtain ⟨d0, df, kl4⟩ := unhide hrgk w4 Z1 m1 s1
            have e1 : decide ((2 : Int) > z) = true := decide_eq_true (unhide HZL)
            have e2 : decide (z < 2) = true := decide_eq_true (unhide HZL)
            have FF := hide (show MtP w k M H (n : Int) nm 2 (.returned (.int .i64 0)) (w4.setCell ⟨k, 5 + n * 3 + i, none⟩ (.int .i64 2)) from .inr ⟨rfl, unhide HZ0, by
              rw [en, ← (unhide HI).2.1]
              exact MX.lock (unhide HX) hn m1 s1 b1 oo1 (unhide HH).2.2.2 (unhide HI).2.2.1 (by rw [(unhide HI).2.1, unhide HZ]; exact unhide HZL) (fun _ => at1) (.inr rfl)⟩)
            clear HF m1 s1 b1 oo1 at1 k17 k0 k1 k2 k3 k4 f0 f1 f2 f3 f4
            go_wp2_with fail
            go_ret
            exact unhide FF
  · rw [decide_eq_false hs] at C1
    have C1 := hide C1
    have FF := hide (show MtP w k M H s nm 2 (.returned (.int .i64 20)) w from .inl ⟨20, rfl, by omega, .inl ⟨by rw [inT_no hs]; omega, by rw [inT_no hs]⟩, rfl⟩)
    clear X hs
    go_enter Tryz.func329, Tryz.ntmps329
    go_wp2_with fail
    refine (unhide C1).mono ?_
    rintro e w2 ⟨rfl, rfl⟩
    go_wp2_with fail
    go_ret
    exact unhide FF
end
end Go.Proofs.Qxb6500412aGreat
