/-
  OWN WORK. TXN, Keeps: a shot of the state; Place, Stays (written by tools/gen_xk1.py).
-/
import Derived.Test.Qxb6500414aGreatXK0
namespace Go.Proofs.Qxb6500414aGreat
open Go.RowKit Go.PlainAid
set_option linter.unusedSimpArgs false
set_option linter.unusedVariables false

/-- The rows of a table as a session sees it. -/
def Mu.rows (M : Mu) (s : Nat) (nm : ByteArray) : List (List Vl) := ((findD (M.see s) nm).map (·.rows)).getD []
/-- The shot shows the state. -/
structure ShOf (S : Sx) (M : Mu) : Prop where
  nm : S.xs 0 = (namesD M.com).map Value.string
  pk : S.xs 1 = M.com.map (fun t => Value.int .i64 (t.pk : Int))
  rows : ∀ s, s < 4 → S.rz s = M.com.map (fun t => M.rows s t.nm)
  lk : ∀ s, s < 4 → S.xs (6 + s) = M.com.map (fun t => Value.int .i64 (M.lk s t.nm))
  act : ∀ s, s < 4 → S.act s = M.act s
def Sht (lo : Nat) (w : World) (k : Nat) (M : Mu) : Prop := ∃ S, SHM lo w k S ∧ ShOf S M
/-- The bounds of a state's tables. -/
structure MuB (M : Mu) : Prop where
  len : M.com.length ≤ 3
  srt : M.com.Pairwise (fun a b => lt a.nm b.nm = true)
  rl : ∀ s, s < 4 → ∀ nm, (M.rows s nm).length ≤ 8 ∧ ∀ r ∈ M.rows s nm, r.length ≤ 3
section
variable {lo : Nat} {w w' : World} {k k2 : Nat} {M N : Mu} {s t : Nat} {T : Tb}
theorem Sht.keep {B : Nat → Prop} (h : Sht lo w k M) (ho : Only B w w') (hB : ∀ b, lo ≤ b → ¬ B b) : Sht lo w' k M := by
  obtain ⟨S, h1, h2⟩ := h
  exact ⟨S, h1.keep ho hB, h2⟩
theorem Sht.quiet (h : Sht lo w k M) (ho : Only (fun _ => False) w w') : Sht lo w' k M := h.keep ho (fun _ _ e => e)
theorem Sht.lt (h : Sht lo w k M) : k < w.heap.size := by
  obtain ⟨S, h1, _⟩ := h
  exact h1.lt
theorem Sht.names (h : Sht lo w k M) : ∃ a cap, w.cell? ⟨k, 0, none⟩ = some (.slice a M.com.length cap) ∧ OwnN w (.slice a M.com.length cap) (namesD M.com) := by
  obtain ⟨S, h1, h2⟩ := h
  have ho := h1.own 0 (by omega)
  have hc := h1.slc (j := 0) (by omega)
  obtain ⟨a, cap, e⟩ := ownsRow_shape ho
  have hl : (S.xs 0).length = M.com.length := by rw [h2.nm]; simp [namesD]
  rw [hl] at e ho
  rw [e] at hc ho
  refine ⟨a, cap, hc, ?_⟩
  unfold OwnN
  rw [h2.nm] at ho
  have hn : (namesD M.com).length = M.com.length := by simp [namesD]
  rw [hn]
  exact ho
theorem Sht.nmAt (h : Sht lo w k M) (ht : M.com[t]? = some T) : ∃ g cap, w.cell? ⟨k, 0, none⟩ = some (.slice (some ⟨g, 0, none⟩) M.com.length cap) ∧ w.cell? ⟨g, t, none⟩ = some (.string T.nm) := by
  obtain ⟨S, h1, h2⟩ := h
  obtain ⟨g, cap, e, hc⟩ := h1.at_ (j := 0) (i := t) (by omega) (x := .string T.nm) (by rw [h2.nm]; simp [namesD, ht])
  have hl : (S.xs 0).length = M.com.length := by rw [h2.nm]; simp [namesD]
  rw [hl] at e
  exact ⟨g, cap, by rw [h1.slc (by omega), e], hc⟩
theorem Sht.pkAt (h : Sht lo w k M) (ht : M.com[t]? = some T) : ∃ g cap, w.cell? ⟨k, 1, none⟩ = some (.slice (some ⟨g, 0, none⟩) M.com.length cap) ∧ w.cell? ⟨g, t, none⟩ = some (.int .i64 (T.pk : Int)) := by
  obtain ⟨S, h1, h2⟩ := h
  obtain ⟨g, cap, e, hc⟩ := h1.at_ (j := 1) (i := t) (by omega) (x := .int .i64 (T.pk : Int)) (by rw [h2.pk]; simp [ht])
  have hl : (S.xs 1).length = M.com.length := by rw [h2.pk]; simp
  rw [hl] at e
  exact ⟨g, cap, by rw [h1.slc (by omega), e], hc⟩
theorem Sht.lkAt (h : Sht lo w k M) (hs : s < 4) (ht : M.com[t]? = some T) : ∃ g cap, w.cell? ⟨k, 6 + s, none⟩ = some (.slice (some ⟨g, 0, none⟩) M.com.length cap) ∧ w.cell? ⟨g, t, none⟩ = some (.int .i64 (M.lk s T.nm)) := by
  obtain ⟨S, h1, h2⟩ := h
  obtain ⟨g, cap, e, hc⟩ := h1.at_ (j := 6 + s) (i := t) (by omega) (x := .int .i64 (M.lk s T.nm)) (by rw [h2.lk s hs]; simp [ht])
  have hl : (S.xs (6 + s)).length = M.com.length := by rw [h2.lk s hs]; simp
  rw [hl] at e
  exact ⟨g, cap, by rw [h1.slc (by omega), e], hc⟩
theorem Sht.actAt (h : Sht lo w k M) (hs : s < 4) : w.cell? ⟨k, 10 + s, none⟩ = some (.bool (M.act s)) := by
  obtain ⟨S, h1, h2⟩ := h
  rw [h1.actc hs, h2.act s hs]
theorem Sht.rowsAt (h : Sht lo w k M) (hs : s < 4) (ht : M.com[t]? = some T) : ∃ g cap za zc, w.cell? ⟨k, 2 + s, none⟩ = some (.slice (some ⟨g, 0, none⟩) M.com.length cap) ∧ w.cell? ⟨g, t, none⟩ = some (.slice za (M.rows s T.nm).length zc) ∧ RdR w (.slice za (M.rows s T.nm).length zc) (M.rows s T.nm) := by
  obtain ⟨S, h1, h2⟩ := h
  have h3 := h1.row s hs
  have hl : (S.xs (2 + s)).length = M.com.length := by rw [h3.1, h2.rows s hs]; simp
  have hlt := (List.getElem?_eq_some_iff.mp ht).1
  obtain ⟨z, hz⟩ := getE (l := S.xs (2 + s)) (i := t) (by omega)
  obtain ⟨us, hu⟩ := h3.2 t z (M.rows s T.nm) hz (by rw [h2.rows s hs]; simp [ht])
  obtain ⟨g, cap, e, hc⟩ := h1.at_ (j := 2 + s) (i := t) (by omega) hz
  rw [hl] at e
  have hr := hu.rd
  obtain ⟨za, zc, rfl, _⟩ := id hr
  exact ⟨g, cap, za, zc, by rw [h1.slc (by omega), e], hc, hr⟩
theorem Sht.fr (h : Sht lo w k M) (j : Nat) : w.frozen? ⟨k, j, none⟩ = false := by
  obtain ⟨S, h1, _⟩ := h
  exact h1.fr j
/-- A table's place by its name. -/
def PlR (D : Db) (nm : ByteArray) (z : Int) : Prop := (z = -1 ∧ ∀ T ∈ D, T.nm ≠ nm) ∨ ∃ (t : Nat) (T : Tb), z = t ∧ D[t]? = some T ∧ T.nm = nm
set_option maxRecDepth 100000 in
theorem xlplace_any (H : Sht lo w k M) (hB : MuB M) (nm : ByteArray) : Calls Tryz.prog 166 #[.pointer (some ⟨k, 0, none⟩), .string nm] w fun e w' => ∃ z, e = .returned (.int .i64 z) ∧ PlR M.com nm z ∧ w = w' := by
  have HG := hide H
  have kl := H.lt
  obtain ⟨a, cap, c0, _⟩ := H.names
  obtain ⟨n, hn⟩ : ∃ n, M.com.length = n := ⟨_, rfl⟩
  have hl := hB.len
  rw [hn] at c0 hl
  have Hn := hide hn
  clear H hn hB
  go_enter Tryz.func166, Tryz.ntmps166
  go_upto_region 2 with fail
  go_loop [5] (fun jv => ∃ i : Nat, jv = .int .i64 i ∧ i ≤ n ∧ ∀ j T, j < i → M.com[j]? = some T → T.nm ≠ nm) (fun jv => n + 1 - (intOf jv).toNat)
  case atStart => exact ⟨0, rfl, by omega, fun j T hj => by omega⟩
  case round =>
    obtain ⟨i, rfl, hi, hne⟩ := hrel
    have HN := hide hne
    clear hne
    by_cases hs : i < n
    · have a1 : decide ((i : Int) < (n : Int)) = true := decide_eq_true (by omega)
      have i3 : (i : Int) < (n : Int) := by omega
      obtain ⟨T, hT⟩ := getE (l := M.com) (i := i) (by rw [unhide Hn]; exact hs)
      obtain ⟨g, cap', d0, d1⟩ := (unhide HG).nmAt hT
      rw [c0] at d0
      simp only [Option.some.injEq, Value.slice.injEq] at d0
      obtain ⟨rfl, _, rfl⟩ := d0
      by_cases h2 : T.nm = nm
      · have b2 := seq_t h2
        have RR := hide (show PlR M.com nm i from .inr ⟨i, T, rfl, hT, h2⟩)
        clear h2 hT
        go_wp2_with fail
        go_ret
        exact ⟨_, rfl, unhide RR, rfl⟩
      · have b2 := seq_f h2
        have HN2 := hide (show ∀ j U, j < i + 1 → M.com[j]? = some U → U.nm ≠ nm from fun j U hj hU => by
          by_cases e : j = i
          · subst e; rw [hT] at hU; cases hU; exact h2
          · exact unhide HN j U (by omega) hU)
        clear h2 hT
        go_wp2_with fail
        go_round
        case rel => exact ⟨i + 1, by go_num, by omega, unhide HN2⟩
        case measure => simp [intOf]; omega
    · obtain rfl : i = n := by omega
      have RR := hide (show PlR M.com nm (-1) from .inl ⟨rfl, fun T hT => by
        obtain ⟨j, hj⟩ := List.getElem?_of_mem hT
        exact unhide HN j T (by rw [← unhide Hn]; exact (List.getElem?_eq_some_iff.mp hj).1) hj⟩)
      go_wp2_with fail
      go_ret
      exact ⟨_, rfl, unhide RR, rfl⟩
/-- A session sees the table as before. -/
def StyP (M N : Mu) (s : Nat) (nm : ByteArray) : Prop := (∃ U ∈ N.com, U.nm = nm) ∧ M.rows s nm = N.rows s nm
set_option maxRecDepth 100000 in
set_option maxHeartbeats 1000000 in
theorem xlstays_any (H : Sht lo w k M) (H2 : Sht lo w k2 N) (hB : MuB M) (hB2 : MuB N) (hs : s < 4) (ht : M.com[t]? = some T) (hp : StyP M N s T.nm) : Calls Tryz.prog 174 #[.pointer (some ⟨k, 0, none⟩), .pointer (some ⟨k2, 0, none⟩), .int .i64 (s : Int), .int .i64 (t : Int)] w fun e w' => e = .returned (.bool true) ∧ Only (fun _ => False) w w' := by
  have kl := H.lt
  have kl2 := H2.lt
  obtain ⟨g, cap, c0, c1⟩ := H.nmAt ht
  obtain ⟨n, hn⟩ : ∃ n, M.com.length = n := ⟨_, rfl⟩
  have hl := hB.len
  have htl := (List.getElem?_eq_some_iff.mp ht).1
  have hl2 := hB2.len
  rw [hn] at c0 htl hl
  have tI : (t : Int) < (n : Int) := by omega
  have s4 : (s : Int) < 4 := by omega
  have CP := hide (xlplace_any H2 hB2 T.nm)
  have HH := hide (And.intro H (And.intro H2 (And.intro hB (And.intro ht hp))))
  have Hn := hide hn
  clear H H2 hB hB2 ht hp hn
  go_enter Tryz.func174, Tryz.ntmps174
  go_wp2_with fail
  refine (unhide CP).mono ?_
  rintro e w1 ⟨z, rfl, hz, rfl⟩
  rcases hz with ⟨_, h⟩ | ⟨u, U, rfl, hu, hun⟩
  · exfalso
    obtain ⟨U, hU, e⟩ := (unhide HH).2.2.2.2.1
    exact h U hU e
  have u0 : decide ((u : Int) < 0) = false := by simp
  obtain ⟨gp, cp, za, zc, pr, pz, pR⟩ := (unhide HH).1.rowsAt hs (unhide HH).2.2.2.1
  obtain ⟨gq, cq, ya, yc, qr, qz, qR⟩ := (unhide HH).2.1.rowsAt hs hu
  rw [hun] at qz qR
  obtain ⟨nq, hnq⟩ : ∃ n, N.com.length = n := ⟨_, rfl⟩
  have hul := (List.getElem?_eq_some_iff.mp hu).1
  rw [hnq] at qr hul hl2
  have uI : (u : Int) < (nq : Int) := by omega
  rw [unhide Hn] at pr
  have oD : Only (fun _ => False) w w.drew := (Only.refl _ w).drew
  have CS := sameRows_any (w := w.drew) (pR.quiet oD) (qR.quiet oD) (by have := ((unhide HH).2.2.1.rl s hs T.nm).1; omega) (fun r hr => by have := ((unhide HH).2.2.1.rl s hs T.nm).2 r hr; omega) true (by rw [(unhide HH).2.2.2.2.2]; exact decide_eq_true rfl)
  generalize (M.rows s T.nm).length = zn at *
  generalize (N.rows s T.nm).length = yn at *
  have CS := hide CS
  clear pR qR oD HH hu hun hnq CP Hn
  go_upto_region 4 with fail
  refine wp_region_held_drew (S := (fun w' => w'.cell? ⟨k, 2 + s, none⟩ = some (.slice (some ⟨gp, 0, none⟩) n cp) ∧ w'.cell? ⟨gp, t, none⟩ = some (.slice za zn zc) ∧ w'.cell? ⟨k2, 2 + s, none⟩ = some (.slice (some ⟨gq, 0, none⟩) nq cq) ∧ w'.cell? ⟨gq, u, none⟩ = some (.slice ya yn yc))) (by kernel_rfl) ⟨pr, pz, qr, qz⟩ (fun hH0 => ?_)
  refine takeH 0 21 (v := ?vs1) rfl rfl (by kernel_rfl) (by kernel_rfl) (by kernel_rfl) (fun _ _ _ h => h) (Or.inl ⟨by rfl, ?hs1⟩) hH0 ?rs1
  case hs1 => (intro w hSw; clear hSw; go_simp; (try with_reducible rfl))
  case rs1 =>
  try simp only [Act.put, List.setIfInBounds_toArray, List.set_cons_zero, List.set_cons_succ]
  refine takeH 1 22 (v := ?vs2) rfl rfl (by kernel_rfl) (by kernel_rfl) (by kernel_rfl) (fun _ _ _ h => h) (Or.inl ⟨by rfl, ?hs2⟩) hH0 ?rs2
  case hs2 => (intro w hSw; clear hSw; go_simp; (try with_reducible rfl))
  case rs2 =>
  try simp only [Act.put, List.setIfInBounds_toArray, List.set_cons_zero, List.set_cons_succ]
  refine takeH 2 23 (v := ?vs3) rfl rfl (by kernel_rfl) (by kernel_rfl) (by kernel_rfl) (fun _ _ _ h => h) (Or.inl ⟨by rfl, ?hs3⟩) hH0 ?rs3
  case hs3 => (intro w hSw; clear hSw; go_simp; (try with_reducible rfl))
  case rs3 =>
  try simp only [Act.put, List.setIfInBounds_toArray, List.set_cons_zero, List.set_cons_succ]
  refine takeH 3 24 (v := ?vs4) rfl rfl (by kernel_rfl) (by kernel_rfl) (by kernel_rfl) (fun _ _ _ h => h) (Or.inl ⟨by rfl, ?hs4⟩) hH0 ?rs4
  case hs4 => (intro w hSw; clear hSw; go_simp; (try with_reducible rfl))
  case rs4 =>
  try simp only [Act.put, List.setIfInBounds_toArray, List.set_cons_zero, List.set_cons_succ]
  refine takeH 4 25 (v := ?vs5) rfl rfl (by kernel_rfl) (by kernel_rfl) (by kernel_rfl) (fun _ _ _ h => h) (Or.inl ⟨by rfl, ?hs5⟩) hH0 ?rs5
  case hs5 => (intro w hSw; clear hSw; go_simp; (try with_reducible rfl))
  case rs5 =>
  try simp only [Act.put, List.setIfInBounds_toArray, List.set_cons_zero, List.set_cons_succ]
  refine takeH 5 26 (v := ?vs6) rfl rfl (by kernel_rfl) (by kernel_rfl) (by kernel_rfl) (fun _ _ _ h => h) (Or.inl ⟨by rfl, ?hs6⟩) hH0 ?rs6
  case hs6 => (intro w hSw; obtain ⟨s0, s1, s2, s3⟩ := hSw; go_simp; (try with_reducible rfl))
  case rs6 =>
  try simp only [Act.put, List.setIfInBounds_toArray, List.set_cons_zero, List.set_cons_succ]
  refine takeH 6 27 (v := ?vs7) rfl rfl (by kernel_rfl) (by kernel_rfl) (by kernel_rfl) (fun _ _ _ h => h) (Or.inl ⟨by rfl, ?hs7⟩) hH0 ?rs7
  case hs7 => (intro w hSw; clear hSw; go_simp; (try with_reducible rfl))
  case rs7 =>
  try simp only [Act.put, List.setIfInBounds_toArray, List.set_cons_zero, List.set_cons_succ]
  refine takeH 7 28 (v := ?vs8) rfl rfl (by kernel_rfl) (by kernel_rfl) (by kernel_rfl) (fun _ _ _ h => h) (Or.inl ⟨by rfl, ?hs8⟩) hH0 ?rs8
  case hs8 => (intro w hSw; clear hSw; go_simp; (try with_reducible rfl))
  case rs8 =>
  try simp only [Act.put, List.setIfInBounds_toArray, List.set_cons_zero, List.set_cons_succ]
  refine takeH 8 29 (v := ?vs9) rfl rfl (by kernel_rfl) (by kernel_rfl) (by kernel_rfl) (fun _ _ _ h => h) (Or.inl ⟨by rfl, ?hs9⟩) hH0 ?rs9
  case hs9 => (intro w hSw; obtain ⟨s0, s1, s2, s3⟩ := hSw; go_simp; (try with_reducible rfl))
  case rs9 =>
  try simp only [Act.put, List.setIfInBounds_toArray, List.set_cons_zero, List.set_cons_succ]
  refine takeH 9 30 (v := ?vs10) rfl rfl (by kernel_rfl) (by kernel_rfl) (by kernel_rfl) (fun _ _ _ h => h) (Or.inl ⟨by rfl, ?hs10⟩) hH0 ?rs10
  case hs10 => (intro w hSw; clear hSw; go_simp; (try with_reducible rfl))
  case rs10 =>
  try simp only [Act.put, List.setIfInBounds_toArray, List.set_cons_zero, List.set_cons_succ]
  refine takeH 10 31 (v := ?vs11) rfl rfl (by kernel_rfl) (by kernel_rfl) (by kernel_rfl) (fun _ _ _ h => h) (Or.inl ⟨by rfl, ?hs11⟩) hH0 ?rs11
  case hs11 => (intro w hSw; clear hSw; go_simp; (try with_reducible rfl))
  case rs11 =>
  try simp only [Act.put, List.setIfInBounds_toArray, List.set_cons_zero, List.set_cons_succ]
  refine takeH 11 32 (v := ?vs12) rfl rfl (by kernel_rfl) (by kernel_rfl) (by kernel_rfl) (fun _ _ _ h => h) (Or.inl ⟨by rfl, ?hs12⟩) hH0 ?rs12
  case hs12 => (intro w hSw; clear hSw; go_simp; (try with_reducible rfl))
  case rs12 =>
  try simp only [Act.put, List.setIfInBounds_toArray, List.set_cons_zero, List.set_cons_succ]
  refine takeH 12 33 (v := ?vs13) rfl rfl (by kernel_rfl) (by kernel_rfl) (by kernel_rfl) (fun _ _ _ h => h) (Or.inl ⟨by rfl, ?hs13⟩) hH0 ?rs13
  case hs13 => (intro w hSw; clear hSw; go_simp; (try with_reducible rfl))
  case rs13 =>
  try simp only [Act.put, List.setIfInBounds_toArray, List.set_cons_zero, List.set_cons_succ]
  refine takeH 13 34 (v := ?vs14) rfl rfl (by kernel_rfl) (by kernel_rfl) (by kernel_rfl) (fun _ _ _ h => h) (Or.inl ⟨by rfl, ?hs14⟩) hH0 ?rs14
  case hs14 => (intro w hSw; clear hSw; go_simp; (try with_reducible rfl))
  case rs14 =>
  try simp only [Act.put, List.setIfInBounds_toArray, List.set_cons_zero, List.set_cons_succ]
  refine takeH 14 35 (v := ?vs15) rfl rfl (by kernel_rfl) (by kernel_rfl) (by kernel_rfl) (fun _ _ _ h => h) (Or.inl ⟨by rfl, ?hs15⟩) hH0 ?rs15
  case hs15 => (intro w hSw; obtain ⟨s0, s1, s2, s3⟩ := hSw; go_simp; (try with_reducible rfl))
  case rs15 =>
  try simp only [Act.put, List.setIfInBounds_toArray, List.set_cons_zero, List.set_cons_succ]
  refine takeH 15 36 (v := ?vs16) rfl rfl (by kernel_rfl) (by kernel_rfl) (by kernel_rfl) (fun _ _ _ h => h) (Or.inl ⟨by rfl, ?hs16⟩) hH0 ?rs16
  case hs16 => (intro w hSw; clear hSw; go_simp; (try with_reducible rfl))
  case rs16 =>
  try simp only [Act.put, List.setIfInBounds_toArray, List.set_cons_zero, List.set_cons_succ]
  refine takeH 16 37 (v := ?vs17) rfl rfl (by kernel_rfl) (by kernel_rfl) (by kernel_rfl) (fun _ _ _ h => h) (Or.inl ⟨by rfl, ?hs17⟩) hH0 ?rs17
  case hs17 => (intro w hSw; clear hSw; go_simp; (try with_reducible rfl))
  case rs17 =>
  try simp only [Act.put, List.setIfInBounds_toArray, List.set_cons_zero, List.set_cons_succ]
  refine takeH 17 38 (v := ?vs18) rfl rfl (by kernel_rfl) (by kernel_rfl) (by kernel_rfl) (fun _ _ _ h => h) (Or.inl ⟨by rfl, ?hs18⟩) hH0 ?rs18
  case hs18 => (intro w hSw; obtain ⟨s0, s1, s2, s3⟩ := hSw; go_simp; (try with_reducible rfl))
  case rs18 =>
  try simp only [Act.put, List.setIfInBounds_toArray, List.set_cons_zero, List.set_cons_succ]
  refine callH 18 (by kernel_rfl) rfl 39 rfl rfl 87 Tryz.func87 (by kernel_rfl) (by kernel_rfl) #[.tmp 29, .tmp 38] #[48, 48] rfl #[.slice za zn zc, .slice ya yn yc] (by simp [Act.eval]) (R := fun v w' => v = .bool true ∧ Only (fun _ => False) w.drew w') ((unhide CS).mono (by rintro en w' ⟨rfl, o⟩; exact ⟨_, rfl, rfl, o⟩)) ?ks
  case ks =>
  rintro _ w6 ⟨rfl, o6⟩
  have S6 : w6.cell? ⟨k, 2 + s, none⟩ = some (.slice (some ⟨gp, 0, none⟩) n cp) ∧ w6.cell? ⟨gp, t, none⟩ = some (.slice za zn zc) ∧ w6.cell? ⟨k2, 2 + s, none⟩ = some (.slice (some ⟨gq, 0, none⟩) nq cq) ∧ w6.cell? ⟨gq, u, none⟩ = some (.slice ya yn yc) := ⟨o6.cellF hH0.1, o6.cellF hH0.2.1, o6.cellF hH0.2.2.1, o6.cellF hH0.2.2.2⟩
  refine ⟨S6, ?_⟩
  try simp only [Act.put, List.setIfInBounds_toArray, List.set_cons_zero, List.set_cons_succ]
  refine takeH 19 8 (v := ?vs19) rfl rfl (by kernel_rfl) (by kernel_rfl) (by kernel_rfl) (fun _ _ _ h => h) (Or.inl ⟨by rfl, ?hs19⟩) S6 ?rs19
  case hs19 => (intro w hSw; clear hSw; go_simp; (try with_reducible rfl))
  case rs19 =>
  try simp only [Act.put, List.setIfInBounds_toArray, List.set_cons_zero, List.set_cons_succ]
  refine wpAnyH_done (by kernel_rfl) ?_ _
  have oD : Only (fun _ => False) w w6 := (Only.refl _ w).drew.trans o6 (fun _ _ e => e)
  have HF := hide oD
  clear hH0 S6 o6 oD
  go_wp2_with fail
  go_ret
  exact ⟨rfl, unhide HF⟩
end
end Go.Proofs.Qxb6500414aGreat
