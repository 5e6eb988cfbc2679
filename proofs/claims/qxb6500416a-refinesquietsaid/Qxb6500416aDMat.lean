/-
  OWN WORK. THE CANONICAL WALK: match.
-/
import Derived.Test.Qxb6500416aDSuf
import Derived.Deep.RegionWith
namespace Go.Proofs.Qxb6500416a
open Go.RowKit Go.PlainAid
set_option linter.unusedSimpArgs false
set_option linter.unusedVariables false

theorem IntsR.drop_in {w : World} {g : Nat} {X : List Int} (h : IntsR w g X) (p : Nat) (hp : p < X.length) : IntsS w (.slice (some ⟨g, p, none⟩) (X.length - p) (X.length - p)) (X.drop p) := by
  refine ⟨_, _, by rw [List.length_drop], fun hn => ⟨g, p, rfl, fun i hi => ?_⟩⟩
  rw [List.length_drop] at hi
  rw [h.cell (p + i) (by omega)]
  simp
theorem IntsS.nil (w : World) (a : Option Addr) (c p : Nat) (X : List Int) (hp : X.length ≤ p) : IntsS w (.slice a 0 c) (X.drop p) := by
  have : X.drop p = [] := List.drop_eq_nil_of_le hp
  rw [this]
  exact ⟨a, c, rfl, fun h => by simp at h⟩
theorem IntsS.cut {w : World} {g : Nat} {X : List Int} {a : Option Addr} (h : IntsR w g X) (p : Nat) (hp : p ≤ X.length) (ha : (if X.length = p then (some ⟨g, 0, none⟩ : Option Addr) else some ⟨g, p, none⟩) = a) : IntsS w (.slice a (X.length - p) (X.length - p)) (X.drop p) := by
  by_cases e : X.length = p
  · have : X.length - p = 0 := by omega
    rw [this]
    exact IntsS.nil _ _ _ _ _ (by omega)
  · rw [if_neg e] at ha
    subst ha
    exact h.drop_in p (by omega)
theorem SfI.from {w0 w : World} {X Y : List Int} {t g i j : Nat} {T : Nat → Nat → Nat} {wr : World} (ho : Only (fun _ => False) w0 w) (h : SfI w X Y t g i j T wr) : SfI w0 X Y t g i j T wr :=
  ⟨h.tb, h.dn, ho.trans h.ho (fun _ _ h => h), Nat.le_trans ho.size h.tl, Nat.le_trans ho.size h.gl⟩
/-- The walk in memory. -/
structure MaI (w : World) (gm : Nat) (X Y M : List Int) (i j : Nat) (wr : World) : Prop where
  mt : MtAt X Y M i j
  row : IntsR wr gm M
  ho : Only (fun _ => False) w wr
  gl : w.heap.size ≤ gm
theorem MaI.quiet {w : World} {gm : Nat} {X Y M : List Int} {i j : Nat} {wr w' : World} (h : MaI w gm X Y M i j wr) (ho : Only (fun _ => False) wr w') : MaI w gm X Y M i j w' :=
  ⟨h.mt, Has.keep h.row ho (fun h => h), h.ho.trans ho (fun _ _ h => h), h.gl⟩
theorem MaI.put {w : World} {gm : Nat} {X Y M : List Int} {i j i' j' : Nat} {wr : World} (h : MaI w gm X Y M i j wr) (v : Int) (hm : MtAt X Y (M.set i v) i' j') : MaI w gm X Y (M.set i v) i' j' (wr.setCell ⟨gm, i, none⟩ (.int .i64 v)) :=
  ⟨hm, h.row.set i v, h.ho.setCell (p := ⟨gm, i, none⟩) (fun hh => by have := h.gl; simp at hh; omega) _, h.gl⟩
set_option maxRecDepth 100000 in
set_option maxHeartbeats 8000000 in
theorem dmatch_any {w : World} {gx gy : Nat} {X Y : List Int} (hX : IntsR w gx X) (hY : IntsR w gy Y) (hx : X.length ≤ 2000) (hy : Y.length ≤ 2000) :
    Calls Try.prog 40 #[.slice (some ⟨gx, 0, none⟩) X.length X.length, .slice (some ⟨gy, 0, none⟩) Y.length Y.length] w fun e w' => ∃ g, e = .returned (.slice (some ⟨g, 0, none⟩) X.length X.length) ∧ IntsR w' g (mtc X Y 0) ∧ w.heap.size ≤ g ∧ Only (fun _ => False) w w' := by
  have hm := drun_make_ints w X.length (by omega)
  have hi0 : MaI w w.heap.size X Y (dzeros X.length) 0 0 (w.alloc (.cells (ints (dzeros X.length)) 3)) := ⟨MtAt.start (dzeros_len _), Has.new _ _ _, (Only.refl _ _).alloc _, Nat.le_refl _⟩
  have hgx := Has.lt hX
  have hgy := Has.lt hY
  have HI0 := hide hi0
  have HX := hide hX
  have HY := hide hY
  clear hi0 hX hY
  go_enter Try.func40, Try.ntmps40
  go_wp2_with fail
  obtain ⟨gm, hgm⟩ : ∃ gm, gm = w.heap.size := ⟨_, rfl⟩
  rw [← hgm]
  rw [← hgm] at HI0
  clear hm
  go_loopw [6] (fun iv wr => ∃ (p : Nat) (M : List Int), iv = .int .i64 p ∧ MaI w gm X Y M p p wr) (fun iv _ => X.length - (intOf iv).toNat)
  case atStart => rw [hgm]; rw [hgm] at HI0; exact ⟨0, _, rfl, unhide HI0⟩
  case round =>
    clear HI0 hgm
    obtain ⟨p, M, rfl, hI⟩ := hrel
    have hil := hI.mt.il
    have hjl := hI.mt.jl
    have hml := hI.mt.ml
    have hgml := hI.gl
    have hws := hI.ho.size
    have hgxw : gx < wr.heap.size := by omega
    have hgyw : gy < wr.heap.size := by omega
    have hX1 : IntsR wr gx X := Has.keep (unhide HX) hI.ho (fun h => h)
    have hY1 : IntsR wr gy Y := Has.keep (unhide HY) hI.ho (fun h => h)
    obtain ⟨b, hbt, hbf⟩ : ∃ b : Bool, (b = true → ∃ (h1 : p < X.length) (h2 : p < Y.length), X[p] = Y[p]) ∧ (∀ (h1 : p < X.length) (h2 : p < Y.length), X[p] = Y[p] → b = true) := by
      by_cases h : ∃ (h1 : p < X.length) (h2 : p < Y.length), X[p] = Y[p]
      · exact ⟨true, fun _ => h, fun _ _ _ => rfl⟩
      · exact ⟨false, fun e => by simp at e, fun h1 h2 he => absurd ⟨h1, h2, he⟩ h⟩
    have Hbt := hide hbt
    have Hbf := hide hbf
    have HI := hide hI
    have HX1 := hide hX1
    have HY1 := hide hY1
    clear hbt hbf hI hX1 hY1
    go_upto_region 3 with fail
    go_cut [35] (fun v wx => v = .bool b ∧ Only (fun _ => False) wr wx)
    case first =>
      by_cases e1 : p < X.length
      · have t1 : decide ((p : Int) < (X.length : Int)) = true := by simp; omega
        have t1' : (p : Int) < (X.length : Int) := by omega
        by_cases e2 : p < Y.length
        · have t2 : decide ((p : Int) < (Y.length : Int)) = true := by simp; omega
          have t2' : (p : Int) < (Y.length : Int) := by omega
          have c0 := (unhide HX1).cell p e1
          have d0 := (unhide HY1).cell p e2
          have hb : (X[p] == Y[p]) = b := by
            cases b with
            | true => obtain ⟨_, _, h⟩ := unhide Hbt rfl; simpa using h
            | false => simp; intro h; have := unhide Hbf e1 e2 h; simp at this
          generalize X[p] = x at *
          generalize Y[p] = y at *
          go_quiet (fail)
          have hoq := (Only.refl (fun _ => False) wr).drewO nq
          go_wp2_with fail
          go_meet
          exact ⟨rfl, hoq⟩
        · have t2 : decide ((p : Int) < (Y.length : Int)) = false := by simp; omega
          have hb : b = false := by
            cases b with
            | true => obtain ⟨_, h, _⟩ := unhide Hbt rfl; exact absurd h e2
            | false => rfl
          subst hb
          go_quiet (fail)
          have hoq := (Only.refl (fun _ => False) wr).drewO nq
          go_wp2_with fail
          go_meet
          exact ⟨rfl, hoq⟩
      · have t1 : decide ((p : Int) < (X.length : Int)) = false := by simp; omega
        have hb : b = false := by
          cases b with
          | true => obtain ⟨h, _, _⟩ := unhide Hbt rfl; exact absurd h e1
          | false => rfl
        subst hb
        go_quiet (fail)
        have hoq := (Only.refl (fun _ => False) wr).drewO nq
        go_wp2_with fail
        go_meet
        exact ⟨rfl, hoq⟩
    case rest =>
    obtain ⟨rfl, hoc⟩ := hcut
    generalize wc = wx at *
    cases b with
    | true =>
      obtain ⟨h1, h2, he⟩ := unhide Hbt rfl
      have hQ := (unhide HI).quiet hoc
      have r0 := hQ.row.cell p (by omega)
      have r1 := Has.free hQ.row p
      have hgw := Has.lt hQ.row
      have hp : (p : Int) < (X.length : Int) := by omega
      have HN := hide (hQ.put (p : Int) (hQ.mt.keep h1 h2 he))
      clear hQ he Hbt Hbf HI HX1 HY1
      go_wp2_with fail
      go_roundw
      case rel => exact ⟨p + 1, _, by go_num, unhide HN⟩
      case measure => simp [intOf]; omega
    | false =>
      have hQ := (unhide HI).quiet hoc
      have hX2 := (unhide HX1).keep hoc (fun h => h)
      have hY2 := (unhide HY1).keep hoc (fun h => h)
      have hws2 := hoc.size
      have C := hide (fun (W : World) (hW : Only (fun _ => False) wx W) (v u : Value) (hv : IntsS W v (X.drop p)) (hu : IntsS W u (Y.drop p)) => dsuffixes_any v u (X.drop p) (Y.drop p) hv hu (by rw [List.length_drop]; omega) (by rw [List.length_drop]; omega))
      have HX2 := hide hX2
      have HY2 := hide hY2
      have HQ := hide hQ
      have hq : Only (fun _ => False) wx wx := Only.refl _ _
      clear hQ hX2 hY2 HI HX1 HY1 Hbt Hbf hoc
      go_upto_region 6 with fail
      go_cut [7] (fun v W => ∃ t g T, v = .pointer (some ⟨t, 0, none⟩) ∧ SfI wx (X.drop p) (Y.drop p) t g 0 0 T W)
      case first =>
        have q0 : (0 : Int) ≤ (p : Int) := by omega
        have q1 : (p : Int) ≤ (X.length : Int) := by omega
        have q2 : (p : Int) ≤ (Y.length : Int) := by omega
        obtain ⟨aX, iX⟩ : ∃ a, (if X.length = p then (some ⟨gx, 0, none⟩ : Option Addr) else some ⟨gx, p, none⟩) = a := ⟨_, rfl⟩
        obtain ⟨aY, iY⟩ : ∃ a, (if Y.length = p then (some ⟨gy, 0, none⟩ : Option Addr) else some ⟨gy, p, none⟩) = a := ⟨_, rfl⟩
        have VX := hide (fun W (hW : Only (fun _ => False) wx W) => IntsS.cut ((unhide HX2).keep hW (fun h => h)) p (by omega) iX)
        have VY := hide (fun W (hW : Only (fun _ => False) wx W) => IntsS.cut ((unhide HY2).keep hW (fun h => h)) p (by omega) iY)
        clear HX2 HY2 HQ
        go_region_with (go_at_call 55; refine (unhide C _ (by first | exact hq | exact hq.drew) _ _ (unhide VX _ (by first | exact hq | exact hq.drew)) (unhide VY _ (by first | exact hq | exact hq.drew))).mono ?_; rintro e w2 ⟨t, g, T, rfl, hS⟩)
        all_goals
          have hS' := hide (hS.from (by first | exact hq | exact hq.drew))
          clear hS
          go_wp2_with fail
          go_meet
          exact ⟨t, g, T, rfl, unhide hS'⟩
      case rest =>
      obtain ⟨t, g, T, rfl, hS⟩ := hcut
      generalize wc = w2 at *
      have hQ2 := (unhide HQ).quiet hS.ho
      have hgml2 := Has.lt (unhide HQ).row
      have hst := hS.tl
      have hsg := hS.gl
      have hnt : ¬ gm = t := by omega
      have hng : ¬ gm = g := by omega
      have hTv : ∀ a b, p + a ≤ X.length → p + b ≤ Y.length → T a b = lcs (X.drop (p + a)) (Y.drop (p + b)) := by
        intro a b ha hb
        have := hS.dn.get (a := a) (b := b) (by rw [List.length_drop]; omega) (by rw [List.length_drop]; omega) (by omega)
        rw [List.drop_drop, List.drop_drop] at this
        exact this
      have htb := hS.tb
      rw [List.length_drop, List.length_drop] at htb
      have HTv := hide hTv
      have Htb := hide htb
      have HQ2 := hide hQ2
      clear hQ2 hS hTv htb HQ C HX2 HY2 hq
      go_wp2_with fail
      go_loopw [8, 9] (fun iv jv wr => ∃ (i j : Nat) (M : List Int), iv = .int .i64 i ∧ jv = .int .i64 j ∧ p ≤ i ∧ p ≤ j ∧ MaI w gm X Y M i j wr ∧ TbAt wr t g (X.length - p) (Y.length - p) (flatF T (Y.length - p + 1))) (fun iv jv _ => (X.length - (intOf iv).toNat) + (Y.length - (intOf jv).toNat))
      case atStart => exact ⟨p, p, M, rfl, rfl, by omega, by omega, unhide HQ2, unhide Htb⟩
      case round =>
        clear HQ2 Htb
        obtain ⟨i, j, M', rfl, rfl, hpi, hpj, hI, hB⟩ := hrel
        have hil' := hI.mt.il
        have hjl' := hI.mt.jl
        have hml' := hI.mt.ml
        have hws' := hI.ho.size
        have hgxw' : gx < wr.heap.size := by omega
        have hgyw' : gy < wr.heap.size := by omega
        have hX1 := (unhide HX).keep hI.ho (fun h => h)
        have hY1 := (unhide HY).keep hI.ho (fun h => h)
        have hgw := Has.lt hI.row
        by_cases hi : i < X.length
        · have t1 : decide ((i : Int) < (X.length : Int)) = true := decide_eq_true (by omega)
          have t1' : (i : Int) < (X.length : Int) := by omega
          have r0 := hI.row.cell i (by omega)
          have r1 := Has.free hI.row i
          have oM : ∀ v : Int, Only (fun k => k = gm) wr (wr.setCell ⟨gm, i, none⟩ (.int .i64 v)) := fun v => donly1 i _
          by_cases hj : j < Y.length
          · have t2 : decide ((Y.length : Int) ≤ (j : Int)) = false := decide_eq_false (by omega)
            have t2' : (j : Int) < (Y.length : Int) := by omega
            have c0 := hX1.cell i hi
            have d0 := hY1.cell j hj
            by_cases he : X[i] = Y[j]
            · have e1 : (X[i] == Y[j]) = true := by simpa using he
              have oD := fun n => (Only.refl (fun _ => False) wr).drewO n
              have HN := hide (fun n => And.intro ((hI.quiet (oD n)).put (j : Int) (hI.mt.keep hi hj he)) ((hB.keep (oD n) (fun h => h) (fun h => h)).keep (donly1 (p := gm) i (.int .i64 (j : Int))) (fun h => hnt h.symm) (fun h => hng h.symm)))
              generalize X[i] = x at *
              generalize Y[j] = y at *
              clear hI hB hX1 hY1 he oM oD
              go_wp2_with fail
              go_quiet (fail)
              go_wp2_with fail
              go_roundw
              case rel => exact ⟨i + 1, j + 1, _, by go_num, by go_num, by omega, by omega, unhide HN nq⟩
              case measure => simp [intOf]; omega
            · have e1 : (X[i] == Y[j]) = false := by simpa using he
              have oD := fun n => (Only.refl (fun _ => False) wr).drewO n
              have v1 := unhide HTv (i - p + 1) (j - p) (by omega) (by omega)
              have v2 := unhide HTv (i - p) (j - p + 1) (by omega) (by omega)
              have p1 : p + (i - p + 1) = i + 1 := by omega
              have p2 : p + (j - p) = j := by omega
              have p3 : p + (i - p) = i := by omega
              have p4 : p + (j - p + 1) = j + 1 := by omega
              rw [p1, p2] at v1
              rw [p3, p4] at v2
              have C1 := hide (fun W (hW : Only (fun _ => False) wr W) ii jj ei ej => tabAt_n (hB.keep hW (fun h => h) (fun h => h)) (i - p + 1) (j - p) ii jj ei ej (by omega) (by omega) (by omega) (by omega))
              have C2 := hide (fun W (hW : Only (fun _ => False) wr W) ii jj ei ej => tabAt_n (hB.keep hW (fun h => h) (fun h => h)) (i - p) (j - p + 1) ii jj ei ej (by omega) (by omega) (by omega) (by omega))
              rw [v1] at C1
              rw [v2] at C2
              have HG := hide (fun W (hW : Only (fun _ => False) wr W) hl => And.intro ((hI.quiet hW).put (-1) (hI.mt.goes hi hj he hl)) ((hB.keep hW (fun h => h) (fun h => h)).keep (donly1 (p := gm) i (.int .i64 (-1))) (fun h => hnt h.symm) (fun h => hng h.symm)))
              have HC := hide (fun W (hW : Only (fun _ => False) wr W) hl => And.intro (show MaI w gm X Y M' i (j + 1) W from ⟨hI.mt.comes hi hj he hl, (hI.quiet hW).row, (hI.quiet hW).ho, hI.gl⟩) (hB.keep hW (fun h => h) (fun h => h)))
              have HR := hide (fun W (hW : Only (fun _ => False) wr W) => (hI.quiet hW).row)
              have b1 := lcs_le _ (X.drop (i + 1)) (Y.drop j) (Nat.le_refl _)
              have b2 := lcs_le _ (X.drop i) (Y.drop (j + 1)) (Nat.le_refl _)
              rw [List.length_drop] at b1 b2
              generalize X[i] = x at *
              generalize Y[j] = y at *
              generalize lcs (X.drop (i + 1)) (Y.drop j) = l1 at *
              generalize lcs (X.drop i) (Y.drop (j + 1)) = l2 at *
              clear hI hB hX1 hY1 he oM v1 v2 p1 p2 p3 p4
              go_wp2_with fail
              go_quiet (fail)
              have hoq := oD nq
              generalize wr.drewN nq = W1 at *
              go_wp2_with fail
              refine (unhide C1 W1 hoq _ _ (by omega) (by omega)).mono ?_
              rintro e w3 ⟨rfl, ho3⟩
              have hoq3 := hoq.trans ho3 (fun _ _ h => h)
              go_wp2_with fail
              refine (unhide C2 w3 hoq3 _ _ (by omega) (by omega)).mono ?_
              rintro e w4 ⟨rfl, ho4⟩
              have hoq4 := hoq3.trans ho4 (fun _ _ h => h)
              by_cases hle : l2 ≤ l1
              · have g1 : decide ((l2 : Int) ≤ (l1 : Int)) = true := decide_eq_true (by omega)
                have hrow := unhide HR w4 hoq4
                have s0 := hrow.cell i (by omega)
                have s1 := Has.free hrow i
                have s2 := Has.lt hrow
                have HN := hide (unhide HG w4 hoq4 hle)
                clear hrow HG HC HR C1 C2
                go_wp2_with fail
                go_roundw
                case rel => exact ⟨i + 1, j, _, by go_num, rfl, by omega, by omega, unhide HN⟩
                case measure => simp [intOf]; omega
              · have g1 : decide ((l2 : Int) ≤ (l1 : Int)) = false := decide_eq_false (by omega)
                have HN := hide (unhide HC w4 hoq4 hle)
                clear HG HC HR C1 C2
                go_wp2_with fail
                go_roundw
                case rel => exact ⟨i, j + 1, _, rfl, by go_num, by omega, by omega, unhide HN⟩
                case measure => simp [intOf]; omega
          · have t2 : decide ((Y.length : Int) ≤ (j : Int)) = true := decide_eq_true (by omega)
            have HN := hide (And.intro (hI.put (-1) (hI.mt.end_ hi hj)) (hB.keep (oM (-1)) (fun h => hnt h.symm) (fun h => hng h.symm)))
            clear hI hB hX1 hY1 oM
            go_wp2_with fail
            go_roundw
            case rel => exact ⟨i + 1, j, _, by go_num, rfl, by omega, by omega, unhide HN⟩
            case measure => simp [intOf]; omega
        · have t1 : decide ((i : Int) < (X.length : Int)) = false := decide_eq_false (by omega)
          have hM := hI.mt.fin (by omega)
          subst hM
          have HN := hide (And.intro hI.row hI.ho)
          clear hI hB hX1 hY1
          go_wp2_with fail
          go_ret
          exact ⟨gm, rfl, (unhide HN).1, hgml, (unhide HN).2⟩
end Go.Proofs.Qxb6500416a
