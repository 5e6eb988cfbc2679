/-
  OWN WORK. THE HUNKS: the real side's walk.
-/
import Derived.Test.Qxb6500416aDPat
namespace Go.Proofs.Qxb6500416a
open Go.RowKit Go.PlainAid
set_option linter.unusedSimpArgs false
set_option linter.unusedVariables false

def HkQ (la lb : List Str) (m : List Int) (out : List Hk) (i pi pj : Nat) : Prop := (i ≤ la.length ∧ HkAt la lb m out i pi pj) ∨ (i = la.length + 1 ∧ hkF la lb m 0 0 0 = out)
theorem HkAt.next {la lb : List Str} {m : List Int} {out : List Hk} {i pi pj : Nat} (h : HkAt la lb m out i pi pj) : ∃ k : Int, ((∃ (_ : i < la.length) (hm : i < m.length), m[i] = k) ∨ (i = la.length ∧ k = (lb.length : Int))) ∧
    ((k = -1 ∧ HkQ la lb m out (i + 1) pi pj) ∨ (∃ kk : Nat, k = (kk : Int) ∧ pj ≤ kk ∧ kk ≤ lb.length ∧ HkQ la lb m (out ++ gapH la lb pi pj i kk) (i + 1) (i + 1) (kk + 1))) := by
  by_cases hi : i < la.length
  · obtain ⟨hm, hc⟩ := h.cases hi
    refine ⟨m[i], .inl ⟨hi, hm, rfl⟩, ?_⟩
    rcases hc with ⟨e, hq⟩ | ⟨k, e, h1, h2, hq⟩
    · exact .inl ⟨e, .inl ⟨by omega, hq⟩⟩
    · exact .inr ⟨k, e, h1, by omega, .inl ⟨by omega, hq⟩⟩
  · have hil := h.il
    have e : i = la.length := by omega
    refine ⟨_, .inr ⟨e, rfl⟩, .inr ⟨lb.length, rfl, h.pjle, by omega, .inr ⟨by omega, ?_⟩⟩⟩
    rw [h.fin e, e]
theorem own_slice {w : World} {base e size n : Nat} {v : Value} {xs : List Value} (h : w.ownsRow base e size v n xs) : ∃ a n c, v = .slice a n c := by
  obtain ⟨a, c, e⟩ := ownsRow_shape h
  exact ⟨a, n, c, e⟩
set_option maxRecDepth 100000 in
set_option maxHeartbeats 4000000 in
theorem dhunks_any {w : World} {va vb : Value} {gm n : Nat} {la lb : List Str} {m : List Int} (hA : OwnL w va la) (hB : OwnL w vb lb) (hM : IntsR w gm m) (ml : m.length = la.length) (hn : n = la.length) (hr : Rise m 0 lb.length) (hla : la.length ≤ 2000) (hlb : lb.length ≤ 2000) :
    Calls Try.prog 41 #[va, vb, .slice (some ⟨gm, 0, none⟩) n n] w fun e w' => ∃ v', e = .returned v' ∧ PI w v' (hkF la lb m 0 0 0) w' := by
  subst hn
  obtain ⟨aa, ac, rfl⟩ := ownsRow_shape hA
  obtain ⟨ba, bc, rfl⟩ := ownsRow_shape hB
  rw [List.length_map] at hA hB
  rw [List.length_map, List.length_map]
  have H0 := hide (HkAt.start (lb := lb) ml hr)
  have hP0 := hide (PI.nil w)
  have CA := hide (fun W (hW : Only (fun _ => False) w W) a b h1 h2 => dlines_any (hA.keep hW (fun _ _ h => h)) a b h1 h2 (by omega))
  have CB := hide (fun W (hW : Only (fun _ => False) w W) a b h1 h2 => dlines_any (hB.keep hW (fun _ _ h => h)) a b h1 h2 (by omega))
  have HM := hide hM
  have hgm := Has.lt hM
  obtain ⟨i0, hi0, hz0, hz1, hz2⟩ := info_parts Try.infoHunk
  generalize hR : hkF la lb m 0 0 0 = R
  have HR := hide hR
  clear hA hB hM hr hR
  go_enter Try.func41, Try.ntmps41
  go_wp2_with fail
  go_loopw [7, 8, 9, 10] (fun ov pv qv iv wr => ∃ (i pi pj : Nat) (out : List Hk), pv = .int .i64 pi ∧ qv = .int .i64 pj ∧ iv = .int .i64 i ∧ HkQ la lb m out i pi pj ∧ PI w ov out wr) (fun _ _ _ iv _ => (la.length + 1) - (intOf iv).toNat)
  case atStart => exact ⟨0, 0, 0, [], rfl, rfl, rfl, .inl ⟨by omega, unhide H0⟩, unhide hP0⟩
  case round =>
    clear H0 hP0
    obtain ⟨i, pi, pj, out, rfl, rfl, rfl, hQ, hP⟩ := hrel
    rcases hQ with ⟨hil, hQ⟩ | ⟨hil, hQ⟩
    · have a1 : decide ((i : Int) ≤ (la.length : Int)) = true := by simp; omega
      have a2 : (i : Int) ≤ (la.length : Int) := by omega
      obtain ⟨k, hk, hnx⟩ := hQ.next
      have hle := hQ.le
      have hpj := hQ.pjle
      have hol := hQ.len
      have Hk := hide hk
      have Hnx := hide hnx
      have HP := hide hP
      have hws := hP.ho.size
      have hgw : gm < wr.heap.size := by omega
      have hMr : IntsR wr gm m := Has.keep (unhide HM) hP.ho (fun h => h)
      have HMr := hide hMr
      clear hQ hk hnx hP hMr
      go_upto_if 25 with fail
      go_cut [11] (fun v wx => v = .int .i64 k ∧ wr = wx)
      case first =>
        rcases unhide Hk with ⟨hi, hm, e⟩ | ⟨hi, e⟩
        · have b1 : decide ((i : Int) < (la.length : Int)) = true := decide_eq_true (by omega)
          have b2 : (i : Int) < (la.length : Int) := by omega
          have c0 := (unhide HMr).cell i hm
          rw [e] at c0
          go_wp2_with fail
          go_meet
          exact ⟨rfl, rfl⟩
        · have b1 : decide (i < la.length) = false := decide_eq_false (by omega)
          have b2 : decide ((i : Int) < (la.length : Int)) = false := decide_eq_false (by omega)
          subst e
          rw [b1]
          clear hi
          refine wp_cond_false rfl ?_
          go_wp2_with fail
          go_meet
          exact ⟨rfl, rfl⟩
      case rest =>
      obtain ⟨rfl, rfl⟩ := hcut
      rcases unhide Hnx with ⟨rfl, hq⟩ | ⟨kk, rfl, h1, h2, hq⟩
      · have Hq := hide hq
        clear hq Hk Hnx
        go_wp2_with fail
        go_roundw
        case rel => exact ⟨i + 1, pi, pj, out, rfl, rfl, by go_num, unhide Hq, unhide HP⟩
        case measure => simp [intOf]; omega
      · have c1 : decide ((0 : Int) ≤ (kk : Int)) = true := decide_eq_true (by omega)
        by_cases hg : pi < i ∨ pj < kk
        · have hgap : gapH la lb pi pj i kk = [⟨pi, cutL la pi i, cutL lb pj kk⟩] := by unfold gapH; rw [if_pos hg]
          rw [hgap] at hq
          have Hq := hide hq
          obtain ⟨⟨hs, hpo, hdst⟩, hpo2⟩ := unhide HP
          have hsl := hpo.len
          have HBl : Hid (∀ y, some y ∈ hvB hs → y < wr.heap.size) := hide (fun y hy => (hpo.2.1.blk y hy).2)
          have CA1 := hide (unhide CA wr hpo2 pi i hle hil)
          have CB1 := hide (fun W (hW : Only (fun _ => False) w W) => unhide CB W hW pj kk h1 h2)
          have Hpo := hide hpo
          have Hpo2 := hide hpo2
          clear hq Hk Hnx hgap hpo hpo2 HP CA CB
          go_upto_region 11 with fail
          go_cut [39] (fun v wx => v = .bool true ∧ wr = wx)
          case first =>
            by_cases hp : pi < i
            · have d1 : decide (pi < i) = true := decide_eq_true hp
              go_wp2_with fail
              go_meet
              exact ⟨rfl, rfl⟩
            · have d1 : decide (pi < i) = false := decide_eq_false hp
              have d2 : decide (pj < kk) = true := decide_eq_true (by omega)
              go_wp2_with fail
              go_meet
              exact ⟨rfl, rfl⟩
          case rest =>
          obtain ⟨rfl, rfl⟩ := hcut
          go_wp2_with fail
          refine (unhide CA1).mono ?_
          rintro e w1 ⟨dv, rfl, oD, bD, o1⟩
          have C2 := hide (unhide CB1 w1 ((unhide Hpo2).trans o1 (fun _ _ h => h)))
          have HD := hide oD
          have HbD := hide bD
          have Ho1 := hide o1
          clear oD bD o1 CA1 CB1
          go_wp2_with fail
          refine (unhide C2).mono ?_
          rintro e w2 ⟨nv, rfl, oN, bN, o2⟩
          have s0 := (unhide Hpo2).size
          have s1 := (unhide Ho1).size
          have s2 := o2.size
          have oW := (unhide Ho1).trans o2 (fun _ _ h => h)
          have hpo2 := (unhide Hpo).keep oW (fun _ _ h => h)
          have hho2 := (unhide Hpo2).trans oW (fun _ _ h => h)
          have h1k : HvOk1 w2 (fun y => w.heap.size ≤ y) ⟨(pi : Int), dv, nv⟩ ⟨(pi : Int), cutL la pi i, cutL lb pj kk⟩ := ⟨rfl, (unhide HD).keep o2 (fun _ _ h => h), oN, fun y hy => by
            rcases hy with hy | hy
            · have := unhide HbD y hy; omega
            · have := bN y hy; omega⟩
          have hlt1 := ownsRow_lt (unhide HD).row
          have hdst2 : Dst (hs ++ [⟨(pi : Int), dv, nv⟩]) := hdst.snoc (fun y hy hm => by
              have := unhide HbD y hy
              have := (unhide HBl y hm)
              omega) (fun y hy hm => by
              have := bN y hy
              have := (unhide HBl y hm)
              omega) (fun y hy hy' => by
              have := hlt1 y hy
              have := bN y hy'
              omega)
          have own2 := hpo2.1
          obtain ⟨da, dn, dc, rfl⟩ := own_slice (unhide HD)
          obtain ⟨na, nn, nc, rfl⟩ := own_slice oN
          have HPush := hide (fun (v' : Value) (w' : World) o n hown hn hgrow hwh => PI.push (o := o) (n := n) (v' := v') (w' := w') hpo2 hdst2 hho2 h1k hown hn hgrow hwh)
          clear oN bN o2 oW hpo2 hho2 h1k Hpo Hpo2 HD HbD Ho1 C2 hdst2 hlt1 HBl
          go_wp2_with (at_builtin; refine wpList_append2 _ rfl _ _ 33 rfl 62 i0 _ 3 56 Try.underlying33 hi0 hz0 hz1 hz2 rfl (by decide) _ _ _ rfl (own2.alloc _) ⟨w2.heap.size, 0, none⟩ 1 1 [.int .i64 (pi : Int), .slice da dn dc, .slice na nn nc] rfl rfl ?c1 ?c2 ?c3 ?c4 ?_)
          try (case c1 => exact news_ok _ _ _ _ rfl)
          case c2 => intro u hu; simp at hu; rcases hu with rfl | rfl | rfl <;> rfl
          case c3 => unfold maxLen; omega
          case c4 => omega
          intro v' w' hown hgrow hwhere
          have HN := hide (unhide HPush v' w' _ _ hown (by omega) hgrow hwhere)
          clear hown hgrow hwhere own2 HPush
          go_wp2_with fail
          go_roundw
          case rel => exact ⟨i + 1, i + 1, kk + 1, _, by go_num, by go_num, by go_num, unhide Hq, unhide HN⟩
          case measure => simp [intOf]; omega
        · have hgap : gapH la lb pi pj i kk = [] := by unfold gapH; rw [if_neg hg]
          rw [hgap, List.append_nil] at hq
          have d1 : decide (pi < i) = false := decide_eq_false (by omega)
          have d2 : decide (pj < kk) = false := decide_eq_false (by omega)
          have Hq := hide hq
          clear hq Hk Hnx hgap hg
          go_wp2_with fail
          go_roundw
          case rel => exact ⟨i + 1, i + 1, kk + 1, out, by go_num, by go_num, by go_num, unhide Hq, unhide HP⟩
          case measure => simp [intOf]; omega
    · have a1 : decide ((i : Int) ≤ (la.length : Int)) = false := by simp; omega
      have a2 : ¬ (i : Int) ≤ (la.length : Int) := by omega
      rw [unhide HR] at hQ
      subst hQ
      have HP := hide hP
      clear hP
      go_wp2_with fail
      go_ret
      exact ⟨_, rfl, unhide HP⟩
end Go.Proofs.Qxb6500416a
