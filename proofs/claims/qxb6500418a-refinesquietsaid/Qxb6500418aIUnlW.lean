/-
  OWN WORK. THE INDEX's POOL: unlink, the walk.
-/
import Derived.Test.Qxb6500418aIUnl
namespace Go.Proofs.Qxb6500418a
open Go.RowKit Go.PlainAid
set_option linter.unusedSimpArgs false
set_option linter.unusedVariables false

theorem bef_head {P : Nat → Nd} {r : Fo} {c q b : Nat} (hl : Lay P r q) (hr : r ≠ .nil) (hq : q = c) : r.bef c b = b := by
  cases r with
  | nil => exact absurd rfl hr
  | file c' n d m r => have := hl.1; simp only [Fo.bef]; rw [if_pos (by omega)]
  | dir c' n k r => have := hl.1; simp only [Fo.bef]; rw [if_pos (by omega)]
theorem Bare.ne {K : Fo} {n : Str} {c : Nat} (h : Bare K n c) : K ≠ .nil := by
  intro e
  subst e
  rcases h with ⟨_, _, h⟩ | h <;> cases h
theorem unl_step {P : Nat → Nd} {G : Fo} {n : Str} {c p b B : Nat} (hl : Lay P G p) (hB : Bare G n c) (hp : p ≠ c) (hb : G.bef c b = B) :
    (1 ≤ p ∧ p < 49) ∧ ((P p).next = c → B = p) ∧ ∃ r, Lay P r (P p).next ∧ Bare r n c ∧ r.bef c p = B ∧ r.sibs + 1 = G.sibs := by
  cases G with
  | nil => exact absurd rfl hB.ne
  | file c' n' d' m' r =>
    obtain ⟨rfl, h2, h3, h4⟩ := hl
    have hn : n' ≠ n := fun e => hp (hB.here e)
    simp only [Fo.bef] at hb
    rw [if_neg hp] at hb
    have hr := hB.rest hn
    exact ⟨h2, fun e => by rw [← hb, bef_head h4 hr.ne e], r, h4, hr, hb, rfl⟩
  | dir c' n' k' r =>
    obtain ⟨rfl, h2, h3, h4, h5⟩ := hl
    have hn : n' ≠ n := fun e => hp (hB.here' e).1
    simp only [Fo.bef] at hb
    rw [if_neg hp] at hb
    have hr := hB.rest' hn
    exact ⟨h2, fun e => by rw [← hb, bef_head h5 hr.ne e], r, h5, hr, hb, rfl⟩

section
variable {w : World} {x : Nat} {P : Nat → Nd} {fr fi : Nat}
theorem IAt.drew (h : IAt w x P fr fi) : IAt w.drew x P fr fi := Has.drew h
theorem IAt.wipe (h : IAt w x P fr fi) (c : Nat) (hc : c < 49) (v : Nat) : IAt ((((((((w.setCell ⟨x, c * 8, none⟩ (.string ⟨#[]⟩)).setCell ⟨x, c * 8 + 1, none⟩ (.int .i64 0)).setCell ⟨x, c * 8 + 2, none⟩ (.int .i64 (v : Int))).setCell ⟨x, c * 8 + 3, none⟩ (.bool false)).setCell ⟨x, c * 8 + 4, none⟩ (.string ⟨#[]⟩)).setCell ⟨x, c * 8 + 5, none⟩ (.int .i64 0)).setCell ⟨x, c * 8 + 6, none⟩ (.int .i64 0)).setCell ⟨x, c * 8 + 7, none⟩ (.int .i64 0)).drew x (updT P c ⟨[], 0, v, false, [], 0, 0, 0⟩) fr fi := IAt.drew (h.put c hc ⟨[], 0, v, false, [], 0, 0, 0⟩)
set_option maxRecDepth 100000 in
set_option maxHeartbeats 4000000 in
theorem unlink_any (h : IAt w x P fr fi) (d c : Nat) (hd : d < 49) (K : Fo) (n : Str) (hl : Lay P K (P d).child) (hs : K.ids.length ≤ 48) (hB : Bare K n c) (hdK : d ∉ K.ids) :
    Calls Try.prog 59 #[.pointer (some ⟨x, 0, none⟩), .int .i64 d, .int .i64 c] w fun e w' => e = .returned (.tuple #[]) ∧ IAt w' x (unlP P K d c fr) c fi ∧ Only (fun k => k = x) w w' := by
  have hxl := h.lt
  have hcK := hB.id
  have hc := hl.rng c hcK
  have hdc : d ≠ c := fun e => hdK (e ▸ hcK)
  have d1 : (d : Int) < 49 := by omega
  have r1 : (c : Int) < 49 := by omega
  have cd := h.ch d hd
  have fd := h.fz (d * 8 + 1)
  have nc := h.nx c hc.2
  have hsp : ∃ B, K.bef c 0 = B := ⟨_, rfl⟩
  obtain ⟨B, hsp⟩ := hsp
  have hX : ∃ PX, unlP P K d c fr = PX := ⟨_, rfl⟩
  obtain ⟨PX, hX⟩ := hX
  rw [hX]
  have HX0 := hide (show B = 0 → PX = updT (updT P d { P d with child := (P c).next }) c ⟨[], 0, fr, false, [], 0, 0, 0⟩ from fun e => by rw [← hX]; unfold unlP; rw [hsp, if_pos e])
  have HX1 := hide (show B ≠ 0 → PX = updT (updT P B { P B with next := (P c).next }) c ⟨[], 0, fr, false, [], 0, 0, 0⟩ from fun e => by rw [← hX]; unfold unlP; rw [hsp, if_neg e])
  clear hX
  have H := hide h
  have hb0 := fun (e : (P d).child = c) => bef_head (b := 0) hl hB.ne e
  rw [hsp] at hb0
  have Hst : Hid ((P d).child ≠ c → ∃ G b, Lay P G (P d).child ∧ Bare G n c ∧ G.bef c b = B ∧ 0 + G.sibs ≤ 48) := hide (fun _ => ⟨K, 0, hl, hB, hsp, by have := sibs_ids K; omega⟩)
  clear hsp hl hB hcK hdK hs h
  by_cases e0 : (P d).child = c
  · have e0' : (((P d).child : Int) == (c : Int)) = true := by rw [e0]; simp
    have HB := hide (hb0 e0)
    clear Hst hb0 e0 HX1
    go_enter Try.func59, Try.ntmps59
    go_upto_region 1 with fail
    go_region
    have h1 : IAt (w.setCell ⟨x, d * 8 + 1, none⟩ (.int .i64 ((P c).next : Int))).drew x (updT P d { P d with child := (P c).next }) fr fi := (unhide H).setChild d hd (P c).next
    have o1 : Only (fun k => k = x) w (w.setCell ⟨x, d * 8 + 1, none⟩ (.int .i64 ((P c).next : Int))).drew := ((Only.refl (fun k => k = x) w).setCell (p := ⟨x, d * 8 + 1, none⟩) (fun _ => rfl) _).drew
    generalize (w.setCell ⟨x, d * 8 + 1, none⟩ (.int .i64 ((P c).next : Int))).drew = W1 at *
    clear cd fd nc H hxl
    have hx1 := h1.lt
    obtain ⟨z0, z1, z2, z3, z4, z5, z6, z7⟩ := h1.all c hc.2
    have ff := h1.free_
    have hp2 := h1.wipe c hc.2 fr
    have op2 := (only8 (i := c) o1 (fun _ => rfl) (.string ⟨#[]⟩) (.int .i64 0) (.int .i64 (fr : Int)) (.bool false) (.string ⟨#[]⟩) (.int .i64 0) (.int .i64 0) (.int .i64 0)).drew
    have Hp2 := hide hp2
    have Op2 := hide op2
    clear hp2 op2 h1 o1
    go_upto_region 8 with fail
    go_region
    generalize ((((((((W1.setCell ⟨x, c * 8, none⟩ (.string ⟨#[]⟩)).setCell ⟨x, c * 8 + 1, none⟩ (.int .i64 0)).setCell ⟨x, c * 8 + 2, none⟩ (.int .i64 (fr : Int))).setCell ⟨x, c * 8 + 3, none⟩ (.bool false)).setCell ⟨x, c * 8 + 4, none⟩ (.string ⟨#[]⟩)).setCell ⟨x, c * 8 + 5, none⟩ (.int .i64 0)).setCell ⟨x, c * 8 + 6, none⟩ (.int .i64 0)).setCell ⟨x, c * 8 + 7, none⟩ (.int .i64 0)).drew = W2 at *
    clear z0 z1 z2 z3 z4 z5 z6 z7 ff
    have hx2 := (unhide Hp2).lt
    have ff := (unhide Hp2).free_
    have hq := (unhide Hp2).setFree c
    have oq := (unhide Op2).setCell (p := ⟨x, 392, none⟩) (fun _ => rfl) (.int .i64 (c : Int))
    go_wp2_with fail
    go_end0
    rw [unhide HX0 (unhide HB)]
    exact ⟨rfl, hq, oq⟩
  · have e0' : (((P d).child : Int) == (c : Int)) = false := by simp; omega
    obtain ⟨G0, b0, g1, g2, g3, g4⟩ := unhide Hst e0
    have Hst2 := hide (show ∃ G b, Lay P G (P d).child ∧ Bare G n c ∧ G.bef c b = B ∧ 0 + G.sibs ≤ 48 from ⟨G0, b0, g1, g2, g3, g4⟩)
    have E0 := hide e0
    clear g1 g2 g3 g4 Hst hb0 e0 HX0
    clear G0 b0
    generalize hp0 : (P d).child = p0 at *
    clear hp0
    go_enter Try.func59, Try.ntmps59
    go_wp2_with fail
    go_loop [6, 7] (fun sv nv => ∃ (i p : Nat) (G : Fo) (b : Nat), sv = .int .i64 p ∧ nv = .int .i64 i ∧ p ≠ c ∧ Lay P G p ∧ Bare G n c ∧ G.bef c b = B ∧ i + G.sibs ≤ 48) (fun _ nv => (49 - intOf nv).toNat)
    case atStart =>
      obtain ⟨G, b, g1, g2, g3, g4⟩ := unhide Hst2
      exact ⟨0, p0, G, b, rfl, rfl, unhide E0, g1, g2, g3, g4⟩
    case round =>
      clear Hst2 E0
      obtain ⟨i, p, G, b, rfl, rfl, hpc, hG, hBG, hbG, hi⟩ := hrel
      obtain ⟨hp, hB0, r, s1, s2, s3, s4⟩ := unl_step hG hBG hpc hbG
      have a1 : decide ((i : Int) < 49) = true := by simp; omega
      have p1 : (p : Int) < 49 := by omega
      have p2 : ((p : Int) != 0) = true := by simp; omega
      have bn := (unhide H).nx p hp.2
      have fn := (unhide H).fz (p * 8 + 2)
      have Hs := hide (And.intro s1 (And.intro s2 s3))
      clear s1 s2 s3 hG hBG hbG
      by_cases en : (P p).next = c
      · have en' : (((P p).next : Int) != (c : Int)) = false := by rw [en]; simp
        have HB := hide (hB0 en)
        clear en hB0 Hs
        go_upto_region 7 with fail
        go_region
        have h1 : IAt (w.setCell ⟨x, p * 8 + 2, none⟩ (.int .i64 ((P c).next : Int))).drew x (updT P p { P p with next := (P c).next }) fr fi := (unhide H).setNext p hp.2 (P c).next
        have o1 : Only (fun k => k = x) w (w.setCell ⟨x, p * 8 + 2, none⟩ (.int .i64 ((P c).next : Int))).drew := ((Only.refl (fun k => k = x) w).setCell (p := ⟨x, p * 8 + 2, none⟩) (fun _ => rfl) _).drew
        generalize (w.setCell ⟨x, p * 8 + 2, none⟩ (.int .i64 ((P c).next : Int))).drew = W1 at *
        clear cd fd nc H hxl bn fn
        have hx1 := h1.lt
        obtain ⟨z0, z1, z2, z3, z4, z5, z6, z7⟩ := h1.all c hc.2
        have ff := h1.free_
        have hp2 := h1.wipe c hc.2 fr
        have op2 := (only8 (i := c) o1 (fun _ => rfl) (.string ⟨#[]⟩) (.int .i64 0) (.int .i64 (fr : Int)) (.bool false) (.string ⟨#[]⟩) (.int .i64 0) (.int .i64 0) (.int .i64 0)).drew
        have Hp2 := hide hp2
        have Op2 := hide op2
        clear hp2 op2 h1 o1
        go_upto_region 8 with fail
        go_region
        generalize ((((((((W1.setCell ⟨x, c * 8, none⟩ (.string ⟨#[]⟩)).setCell ⟨x, c * 8 + 1, none⟩ (.int .i64 0)).setCell ⟨x, c * 8 + 2, none⟩ (.int .i64 (fr : Int))).setCell ⟨x, c * 8 + 3, none⟩ (.bool false)).setCell ⟨x, c * 8 + 4, none⟩ (.string ⟨#[]⟩)).setCell ⟨x, c * 8 + 5, none⟩ (.int .i64 0)).setCell ⟨x, c * 8 + 6, none⟩ (.int .i64 0)).setCell ⟨x, c * 8 + 7, none⟩ (.int .i64 0)).drew = W2 at *
        clear z0 z1 z2 z3 z4 z5 z6 z7 ff
        have hx2 := (unhide Hp2).lt
        have ff := (unhide Hp2).free_
        have hq := (unhide Hp2).setFree c
        have oq := (unhide Op2).setCell (p := ⟨x, 392, none⟩) (fun _ => rfl) (.int .i64 (c : Int))
        go_wp2_with fail
        go_end0
        rw [unhide HX1 (by have := unhide HB; omega), unhide HB]
        exact ⟨rfl, hq, oq⟩
      · have en' : (((P p).next : Int) != (c : Int)) = true := by simp; omega
        have En := hide en
        clear en hB0
        generalize hq0 : (P p).next = q at *
        clear hq0
        go_wp2_with fail
        go_round
        case rel =>
          obtain ⟨s1, s2, s3⟩ := unhide Hs
          exact ⟨i + 1, q, r, p, rfl, by go_num, unhide En, s1, s2, s3, by omega⟩
        case measure => simp [intOf]; omega
end
end Go.Proofs.Qxb6500418a
