/-
  OWN WORK. TXN: drop (written by tools/gen_x7.py).
-/
import Derived.Test.Qxb6500412aGreatX6
namespace Go.Proofs.Qxb6500412aGreat
open Go.RowKit Go.PlainAid
set_option linter.unusedSimpArgs false
set_option linter.unusedVariables false

/-- The shift down, at place j. -/
def dmid (l : List WCh) (p j : Nat) : List WCh := (l.eraseIdx p).take j ++ l.drop j
section
variable {l : List WCh} {p j : Nat}
theorem wer_at (hp : p < l.length) (i : Nat) : (l.eraseIdx p)[i]? = if i < p then l[i]? else l[i + 1]? := by
  rw [List.getElem?_eraseIdx]
theorem wer_len (hp : p < l.length) : (l.eraseIdx p).length = l.length - 1 := List.length_eraseIdx_of_lt hp
theorem dmid_get (hp : p < l.length) (hj : j < l.length) (i : Nat) : (dmid l p j)[i]? = if i < j then (l.eraseIdx p)[i]? else l[i]? := by
  unfold dmid
  have hl : ((l.eraseIdx p).take j).length = j := by rw [List.length_take, wer_len hp]; omega
  by_cases c : i < j
  · rw [if_pos c, List.getElem?_append_left (by omega), List.getElem?_take, if_pos c]
  · rw [if_neg c, List.getElem?_append_right (by omega), hl, List.getElem?_drop, show j + (i - j) = i by omega]
theorem dmid_len (hp : p < l.length) (hj : j < l.length) : (dmid l p j).length = l.length := by
  unfold dmid
  rw [List.length_append, List.length_take, wer_len hp, List.length_drop]; omega
theorem dmid_start (hp : p < l.length) : dmid l p p = l := by
  apply List.ext_getElem?
  intro i
  rw [dmid_get hp hp, wer_at hp]
  by_cases c : i < p
  · rw [if_pos c, if_pos c]
  · rw [if_neg c]
theorem dmid_step (hp : p < l.length) (hpj : p ≤ j) (hj : j + 1 < l.length) {x : WCh} (hx : l[j + 1]? = some x) : (dmid l p j).set j x = dmid l p (j + 1) := by
  apply List.ext_getElem?
  intro i
  rw [dmid_get hp hj]
  by_cases c : j = i
  · subst c
    rw [List.getElem?_set_self (by rw [dmid_len hp (by omega)]; omega), if_pos (by omega), wer_at hp, if_neg (by omega), hx]
  · rw [List.getElem?_set_ne c, dmid_get hp (by omega)]
    by_cases c1 : i < j
    · rw [if_pos c1, if_pos (by omega)]
    · rw [if_neg c1, if_neg (by omega)]
theorem dmid_cut (hp : p < l.length) (hj : j + 1 = l.length) : (wcs (dmid l p j)).take (j * 6) = wcs (l.eraseIdx p) := by
  unfold dmid
  have hl : (l.eraseIdx p).length = j := by rw [wer_len hp]; omega
  rw [show (l.eraseIdx p).take j = l.eraseIdx p from List.take_of_length_le (by omega), wcs_app, List.take_append_of_le_length (by rw [wcs_len, hl]; omega), List.take_of_length_le (by rw [wcs_len, hl]; omega)]
end
theorem Xs.setW_same (X : Xs) {s : Nat} {v : Value} {l : List WCh} (hv : X.wv s = v) (hl : X.ws s = l) : X.setW s v l = X := by
  cases X
  simp only [Xs.setW]
  simp only at hv hl
  congr 1
  · funext i; by_cases e : i = s
    · subst e; rw [if_pos rfl]; exact hv.symm
    · rw [if_neg e]
  · funext i; by_cases e : i = s
    · subst e; rw [if_pos rfl]; exact hl.symm
    · rw [if_neg e]
section
variable {w w' : World} {g t : Nat} {X : Xs} {s : Nat}
def drpW (l : List WCh) (p : Nat) (hit : Bool) : List WCh := if hit = true then l.eraseIdx p else l
/-- What drop leaves. -/
def DpP (w : World) (g t : Nat) (X : Xs) (s : Nat) (tab : ByteArray) (key : Vl) (e : Ending) (w' : World) : Prop := ∃ v' n hit, e = .returned (.tuple #[]) ∧ FnR (X.ws s) tab key (n : Nat) hit ∧ XM w' g t (X.setW s v' (drpW (X.ws s) n hit)) ∧ (∀ k, v'.ownBlock = some k → (X.wv s).ownBlock = some k ∨ w.heap.size ≤ k) ∧ Only (X.U g s) w w'
set_option maxRecDepth 100000 in
set_option maxHeartbeats 8000000 in
theorem xdrop_any (M : XM w g t X) (hs : s < 4) (hl : (X.ws s).length ≤ 1000) (tab : ByteArray) (key : Vl) : Calls Tryz.prog 315 #[.pointer (some ⟨g, 0, none⟩), .int .i64 (s : Int), .string tab, vlA key] w (DpP w g t X s tab key) := by
  have o0 : Only (fun _ => False) w (w.alloc (.cells #[.bool key.str, .int .i64 key.i, .string key.s] 152)) := (Only.refl _ w).alloc _
  have N0 := Has.new w #[.bool key.str, .int .i64 key.i, .string key.s] 152
  have M0 := M.quiet o0
  have C1 := xfind_any M0 hs hl tab key
  unfold vlA at C1 ⊢
  have C1 := hide C1
  have HM := hide M
  have HM0 := hide M0
  have HO := hide o0
  have HN := hide N0
  have s4 : (s : Int) < 4 := by omega
  clear M M0 o0 N0
  go_enter Tryz.func315, Tryz.ntmps315
  go_upto_region 1 with fail
  generalize w.alloc (.cells #[.bool key.str, .int .i64 key.i, .string key.s] 152) = w0 at *
  generalize hkc : w.heap.size = kc at *
  have x0 : w0.cell? ⟨kc, 0, none⟩ = some (.bool key.str) := (unhide HN).cell 0
  have x1 : w0.cell? ⟨kc, 1, none⟩ = some (.int .i64 key.i) := (unhide HN).cell 1
  have x2 : w0.cell? ⟨kc, 2, none⟩ = some (.string key.s) := (unhide HN).cell 2
  go_wp2_with fail
  refine (unhide C1).mono ?_
  rintro e w1 ⟨p, hit, rfl, hf, o1⟩
  have HM1 := hide ((unhide HM0).quiet o1)
  have HO1 := hide ((unhide HO).trans o1 (fun _ _ h => h))
  have HF := hide hf
  obtain ⟨n, rfl, hn, _, hcase⟩ := hf
  clear C1 o1 x0 x1 x2
  cases hit with
  | false =>
    have FF := hide (show DpP w g t X s tab key (.returned (.tuple #[])) w1 from ⟨X.wv s, n, false, rfl, unhide HF, by
      have e : drpW (X.ws s) n false = X.ws s := by unfold drpW; rw [if_neg (by simp)]
      rw [e, Xs.setW_same X rfl rfl]; exact unhide HM1, fun k hk => .inl hk, (unhide HO1).mono (fun _ _ h => h.elim)⟩)
    clear hcase hn
    go_wp2_with fail
    go_end0
    exact unhide FF
  | true =>
    rcases hcase with ⟨_, h⟩ | ⟨c, hc, hle, heq⟩
    · cases h
    clear hle heq
    have W := (unhide HM1).ws s hs
    obtain ⟨a, cap, hwv⟩ := W.shape
    have c0 := (unhide HM1).has.wset hs
    have gl := (unhide HM1).has.lt
    rw [hwv] at W c0
    obtain ⟨b, rfl, _⟩ := W.at_ hc
    obtain ⟨m, hm⟩ : ∃ m, (X.ws s).length = m := ⟨_, rfl⟩
    have own1 : w1.ownsRow 0 285 6 (.slice (some ⟨b, 0, none⟩) m cap) m (wcs (X.ws s)) := by have := W.own; rw [hm] at this; exact this
    have hnm : n < m := by rw [← hm]; exact (List.getElem?_eq_some_iff.mp hc).1
    rw [hm] at c0 hl
    have hbg : b ≠ g := (unhide HM1).mg hs (by rw [hwv]; rfl)
    have Hwv := hide (show X.wv s = .slice (some ⟨b, 0, none⟩) m cap by rw [hwv, hm])
    have Hm := hide hm
    clear W hwv hc hn hm
    go_upto_region 4 with fail
    go_loopw [10] (fun jv wr => ∃ j : Nat, jv = .int .i64 j ∧ n ≤ j ∧ j < m ∧ wr.ownsRow 0 285 6 (.slice (some ⟨b, 0, none⟩) m cap) m (wcs (dmid (X.ws s) n j)) ∧ Only (fun k => k = b) w1 wr) (fun jv _ => m - (intOf jv).toNat)
    case atStart => exact ⟨n, rfl, Nat.le_refl _, hnm, by rw [dmid_start (by rw [unhide Hm]; exact hnm)]; exact own1, Only.refl _ _⟩
    case round =>
      obtain ⟨j, rfl, hpj, hjn, R, oW⟩ := hrel
      have cW := cell_keepX c0 oW hbg.symm
      have hul := unhide Hm
      have hw1 : IntKind.i64.wrap ((j : Int) + 1) = (j : Int) + 1 := by rw [IntWalk.i64_in] <;> omega
      by_cases hj : j + 1 < m
      · have dj : decide ((j : Int) + 1 < (m : Int)) = true := decide_eq_true (by omega)
        have djn : decide (j + 1 < m) = true := decide_eq_true hj
        obtain ⟨x, hx⟩ := getE (l := X.ws s) (i := j + 1) (by omega)
        obtain ⟨y, hy⟩ := getE (l := X.ws s) (i := j) (by omega)
        obtain ⟨sa, sc, hsu⟩ := (((unhide HM).ws s hs).row x (List.mem_of_getElem? hx)).shape
        obtain ⟨e0, e1, e2, e3, e4, e5⟩ := wcell6 R (j := j + 1) (x := x) (by rw [dmid_get (by omega) (by omega), if_neg (by omega)]; exact hx)
        obtain ⟨d0, d1, d2, d3, d4, d5⟩ := wcell6 R (j := j) (x := y) (by rw [dmid_get (by omega) (by omega), if_neg (by omega)]; exact hy)
        have f0 := gownFree R (j * 6)
        have f1 := gownFree R (j * 6 + 1)
        have f2 := gownFree R (j * 6 + 2)
        have f3 := gownFree R (j * 6 + 3)
        have f4 := gownFree R (j * 6 + 4)
        have f5 := gownFree R (j * 6 + 5)
        have R2 := wset6 R j x
        have o6 := wonly6 wr b j x
        rw [dmid_step (by omega) hpj (by omega) hx] at R2
        rw [hsu] at e5 R2 o6
        obtain ⟨xn, hxn⟩ : ∃ k, x.d.row.length = k := ⟨_, rfl⟩
        rw [hxn] at e5 R2 o6
        have HR := hide (And.intro (ownsRow_keep R2 ((Only.refl (fun _ => False) _).drew) (fun _ _ h => h)) ((oW.trans o6 (fun _ _ h => h)).drew))
        have hjI : (j : Int) < (m : Int) := by omega
        have hj1 : (j : Int) + 1 < (m : Int) := by omega
        have hj8 : j ≤ 1000 := by omega
        clear R R2 oW o6 hx hy hsu hxn
        go_upto_region 6 with fail
        go_region
        go_wp2_with fail
        go_roundw
        case rel => exact ⟨j + 1, by go_num, by omega, hj, (unhide HR).1, (unhide HR).2⟩
        case measure => simp [intOf]; omega
      · have dj : decide ((j : Int) + 1 < (m : Int)) = false := decide_eq_false (by omega)
        have djn : decide (j + 1 < m) = false := decide_eq_false hj
        obtain ⟨k, hk⟩ : ∃ k, m = k + 1 := ⟨m - 1, by omega⟩
        have hjk : j = k := by omega
        subst hjk
        have R2 := gcutrow R (m := j) (by omega)
        rw [dmid_cut (by omega) (by omega)] at R2
        have hXW : XH wr g t X := (unhide HM1).has.keep oW (fun e => hbg (Eq.symm e))
        have z0 := hXW.fr (23 + s)
        have o7 : Only (fun y => y = g) wr (wr.setCell ⟨g, 23 + s, none⟩ (.slice (some ⟨b, 0, none⟩) j cap)) := only1 _ _
        have oF : Only (X.U g s) w ((wr.setCell ⟨g, 23 + s, none⟩ (.slice (some ⟨b, 0, none⟩) j cap)).drew) := (((((unhide HO1).mono (T := X.U g s) (fun _ _ h => h.elim)).trans oW (fun y hy e => .inr (by have e' : y = b := e; rw [e', unhide Hwv]; rfl))).trans o7 (fun y _ e => .inl e))).drew
        have hXF := (hXW.setW hs (.slice (some ⟨b, 0, none⟩) j cap) (drpW (X.ws s) n true)).keep ((Only.refl (fun _ => False) _).drew) (fun h => h)
        have hlen : (drpW (X.ws s) n true).length = j := by unfold drpW; rw [if_pos rfl, wer_len (by omega)]; omega
        have hbb : ∀ k, (Value.slice (some ⟨b, 0, none⟩) j cap).ownBlock = some k → (X.wv s).ownBlock = some k ∨ w.heap.size ≤ k := fun k hk => .inl (by rw [unhide Hwv]; exact hk)
        have hWL : WL ((wr.setCell ⟨g, 23 + s, none⟩ (.slice (some ⟨b, 0, none⟩) j cap)).drew) (.slice (some ⟨b, 0, none⟩) j cap) (drpW (X.ws s) n true) := by
          refine ⟨?_, fun e he => ?_⟩
          · rw [hlen]
            exact ownsRow_keep (ownsRow_keep R2 o7 (fun k hk e => by simp [Value.ownBlock] at hk; have e' : k = g := e; omega)) ((Only.refl (fun _ => False) _).drew) (fun _ _ h => h)
          · have he' : e ∈ X.ws s := List.mem_of_mem_eraseIdx (by unfold drpW at he; rw [if_pos rfl] at he; exact he)
            exact (((unhide HM).ws s hs).row e he').keep oF (fun k hk => (unhide HM).offU hs (((unhide HM).ws s hs).row e he') hk)
        have FF := hide (show DpP w g t X s tab key (.returned (.tuple #[])) ((wr.setCell ⟨g, 23 + s, none⟩ (.slice (some ⟨b, 0, none⟩) j cap)).drew) from ⟨_, n, true, rfl, unhide HF, (unhide HM).setW hs oF hXF hWL hbb, hbb, oF⟩)
        have hw2 : IntKind.i64.wrap (((j + 1 : Nat) : Int) - 1) = (j : Int) := by rw [IntWalk.i64_in] <;> omega
        have hw3 : IntKind.i64.wrap ((j : Int) + 1 - 1) = (j : Int) := by rw [IntWalk.i64_in] <;> omega
        have hcap : j + 1 ≤ cap := by
          rcases own1.2 with ⟨he, _⟩ | ⟨g', cap', cur, he, _, _, hn', _⟩
          · cases he
          · obtain ⟨rfl, rfl⟩ : b = g' ∧ cap = cap' := by simpa using he
            omega
        have hcI : (j : Int) ≤ (cap : Int) := by omega
        rw [hk] at cW dj
        clear R R2 oW o7 oF hXF hlen hbb hWL hXW
        go_upto_region 7 with fail
        go_region
        all_goals
          go_wp2_with fail
          go_end0
          exact unhide FF
end
end Go.Proofs.Qxb6500412aGreat
