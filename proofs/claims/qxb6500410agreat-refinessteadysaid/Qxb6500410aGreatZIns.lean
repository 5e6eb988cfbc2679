/-
  OWN WORK. THE FOREST MODEL: Insert, Delete.
-/
import Derived.Test.Qxb6500410aGreatZOps
import Derived.Test.Qxb6500410aGreatBKp
import Derived.BigRegion
namespace Go.Proofs.Qxb6500410aGreat
open Go.RowKit Go.PlainAid
set_option linter.unusedSimpArgs false
set_option linter.unusedVariables false

theorem OwnK.setV {w : World} {g cap : Nat} {l : List KV} (h : OwnK w (.slice (some ⟨g, 0, none⟩) l.length cap) l) {i : Nat} {x : KV} (hx : l[i]? = some x) (v : ByteArray) : OwnK (w.setCell ⟨g, i * 2 + 1, none⟩ (.string v)) (.slice (some ⟨g, 0, none⟩) l.length cap) (l.set i (x.1, v)) := by
  have hi := (List.getElem?_eq_some_iff.mp hx).1
  unfold OwnK
  rw [zkv_setV l i v hx, List.length_set]
  exact browset h (by omega) _
theorem OwnK.setE {w : World} {g cap n : Nat} {l : List KV} (h : OwnK w (.slice (some ⟨g, 0, none⟩) n cap) l) (hn : l.length = n) {i : Nat} (hi : i < n) (e : KV) : OwnK ((w.setCell ⟨g, i * 2, none⟩ (.string e.1)).setCell ⟨g, i * 2 + 1, none⟩ (.string e.2)) (.slice (some ⟨g, 0, none⟩) n cap) (l.set i e) := by
  subst hn
  unfold OwnK
  rw [zkv_set l i e, List.length_set]
  exact browset (browset h (by omega) _) (by omega) _
theorem OwnK.shrink {w : World} {g cap n : Nat} {xs : List KV} {y : KV} (h : OwnK w (.slice (some ⟨g, 0, none⟩) n cap) (xs ++ [y])) (hn : xs.length + 1 = n) : OwnK w (.slice (some ⟨g, 0, none⟩) xs.length cap) xs := by
  have hl : (xs ++ [y]).length = xs.length + 1 := by simp
  unfold OwnK at h ⊢
  rw [hl] at h
  obtain ⟨h0, h1 | ⟨g', cap', cur, e1, hb, hg, hn', hm, hs, ht⟩⟩ := h
  · exact absurd h1.1 (by simp)
  · obtain ⟨rfl, rfl⟩ : g = g' ∧ cap = cap' := by
      simp at e1
      exact ⟨e1.1, e1.2.2⟩
    refine ⟨zkv_len xs, .inr ⟨g, cap, cur, rfl, hb, hg, by omega, hm, hs, ?_⟩⟩
    have h6 := congrArg (List.take (xs.length * 2)) ht
    rw [List.take_take, Nat.min_eq_left (by omega), zkv_app] at h6
    rw [h6, List.take_append_of_le_length (by rw [zkv_len]; exact Nat.le_refl _), ← zkv_len xs, List.take_length]
theorem hitL_some {k : ByteArray} {l : List KV} (h : hitL k l = true) : ∃ e, l[plL k l]? = some e ∧ e.1 = k := by
  unfold hitL at h
  cases he : l[plL k l]? with
  | none => rw [he] at h; cases h
  | some e =>
    rw [he] at h
    exact ⟨e, rfl, (of_decide_eq_true h).symm⟩
theorem hitL_none {k : ByteArray} {l : List KV} (h : hitL k l = false) : ∀ e, l[plL k l]? = some e → lt e.1 k = false ∧ e.1 ≠ k := by
  intro e he
  refine ⟨plL_at k l e he, fun c => ?_⟩
  unfold hitL at h
  rw [he] at h
  have := of_decide_eq_false h
  exact this c.symm
theorem hitL_get {k : ByteArray} {l : List KV} (hs : Srt l) : (hitL k l = true → getL k l ≠ none) ∧ (hitL k l = false → getL k l = none) := by
  rw [getL_pl hs]
  refine ⟨fun h => ?_, fun h => ?_⟩
  · rw [if_pos h]
    obtain ⟨e, he, _⟩ := hitL_some h
    rw [he]; simp
  · rw [if_neg (by rw [h]; simp)]
section
variable {w w' : World} {m : Nat} {S T U : Vu} {hist : Option Vu} {op : Bool} {H : Nat → Prop}
theorem Vok.put (V : Vok S) {i : Nat} (hi : i < 8) {l : List KV} (hS : S i = some l) (k v : ByteArray) (h : getL k l ≠ none ∨ (al8 S).length < 64) : Vok (updV S i (some (putL k v l))) := by
  have hs := V.srt i l hS
  refine V.upd hi (fun l' hl => by cases hl; exact putL_srt hs) ?_
  obtain ⟨A, B, f1, _, _, f2⟩ := flat_upd S hi
  have hc := V.ct
  rw [← flat_len, f1, hS] at hc
  rw [← flat_len, f1, hS] at h
  rw [f2]
  simp only [List.length_append, Option.getD_some, tagI, List.length_map] at hc h ⊢
  by_cases c : ∃ e ∈ l, e.1 = k
  · rw [putL_len_old hs c]; omega
  · have hn : ∀ e ∈ l, e.1 ≠ k := fun e he hk => c ⟨e, he, hk⟩
    rw [putL_len_new hn]
    rcases h with h | h
    · exact absurd (getL_none hn) h
    · omega
theorem Vok.del (V : Vok S) {i : Nat} (hi : i < 8) {l : List KV} (hS : S i = some l) (k : ByteArray) : Vok (updV S i (some (delL k l))) := by
  have hs := V.srt i l hS
  refine V.upd hi (fun l' hl => by cases hl; exact List.Pairwise.filter _ hs) ?_
  obtain ⟨A, B, f1, _, _, f2⟩ := flat_upd S hi
  have hc := V.ct
  rw [← flat_len, f1, hS] at hc
  rw [f2]
  simp only [List.length_append, Option.getD_some, tagI, List.length_map] at hc ⊢
  have : (delL k l).length ≤ l.length := List.length_filter_le _ _
  omega
/-- One row is another, in place or fresh. -/
theorem ZE.row {es : Nat → Value} {n : Nat} {v' : Value} {l' : List KV} {B : Nat → Prop} (E : ZE w es S) (ap : Apart es) (hn : n < 8) (ho : Only B w w') (hB : ∀ k, B k → (es n).ownBlock = some k ∨ (¬ EB es k)) (O : OwnK w' v' l') (hv : ∀ k, v'.ownBlock = some k → (es n).ownBlock = some k ∨ w.heap.size ≤ k) :
    ZE w' (putE es n v') (updV S n (some l')) ∧ Apart (putE es n v') ∧ ∀ k, EB (putE es n v') k → EB es k ∨ w.heap.size ≤ k := by
  refine ⟨⟨fun j hj => ?_⟩, fun a b g ha hb hab e1 e2 => ?_, fun k ⟨j, hj, hk⟩ => ?_⟩
  · rw [eS_upd]
    unfold putE
    by_cases c : j = n
    · rw [if_pos c, if_pos c]; exact O
    · rw [if_neg c, if_neg c]
      refine (E.own j hj).keep ho (fun k hk hb => ?_)
      rcases hB k hb with d | d
      · exact ap j n k hj hn c hk d
      · exact d ⟨j, hj, hk⟩
  · unfold putE at e1 e2
    by_cases c1 : a = n
    · rw [if_pos c1] at e1
      rw [if_neg (by omega)] at e2
      rcases hv g e1 with d | d
      · exact ap n b g hn hb (by omega) d e2
      · have := (E.own b hb).lt g e2; omega
    · rw [if_neg c1] at e1
      by_cases c2 : b = n
      · rw [if_pos c2] at e2
        rcases hv g e2 with d | d
        · exact ap a n g ha hn c1 e1 d
        · have := (E.own a ha).lt g e1; omega
      · rw [if_neg c2] at e2
        exact ap a b g ha hb hab e1 e2
  · unfold putE at hk
    by_cases c : j = n
    · rw [if_pos c] at hk
      rcases hv k hk with d | d
      · exact .inl ⟨n, hn, d⟩
      · exact .inr d
    · rw [if_neg c] at hk
      exact .inl ⟨j, hj, hk⟩
theorem putE_self {es : Nat → Value} {n : Nat} : putE es n (es n) = es := by
  funext j
  unfold putE
  by_cases c : j = n
  · rw [if_pos c, c]
  · rw [if_neg c]
theorem updV_same {n : Nat} {l l' : List KV} (hS : S n = some l) : stF (updV S n (some l')) = stF S := by
  funext es j
  unfold stF updV
  by_cases c : j < 8
  · rw [if_pos c, if_pos c]
    by_cases d : j = n
    · rw [if_pos d, d, hS]; rfl
    · rw [if_neg d]
  · rw [if_neg c, if_neg c]
set_option maxRecDepth 100000 in
set_option maxHeartbeats 4000000 in
theorem zinsert_open (h : ZAt w m S T U hist true H) (i : Int) (k u : ByteArray) : Calls Tryz.prog 110 #[.pointer (some ⟨m, 0, none⟩), .int .i64 i, .string k, .string u] w fun e w' => e = .returned (.int .i64 (putS S i k u).2) ∧ ZAt w' m (putS S i k u).1 T U hist true (Ext H w w') ∧ Only H w w' := by
  obtain ⟨es, r, h1, h2, h3, h4, _, _, hK⟩ := h.curL
  have c4 := zG_opc h1
  have C1 := zused_any h i
  have same : ∀ {w1 : World}, Only (fun _ => False) w w1 → ZAt w1 m S T U hist true (Ext H w w1) ∧ Only H w w1 := fun o => ⟨(h.quiet o).mono (fun k hk => .inl hk) (Ext.in h.inn o.size), o.mono (fun _ _ h => h.elim)⟩
  cases hz : Vz S i with
  | none =>
    have hd : putS S i k u = (S, 7) := by unfold putS; rw [hz]
    rw [hd]
    rw [hz] at C1
    have C1 := hide C1
    have HH := hide (same (Only.refl _ w))
    clear hK h1 h2 h3 h4 hz hd h same
    go_enter Tryz.func110, Tryz.ntmps110
    go_wp2_with fail
    refine (unhide C1).mono ?_
    rintro e w1 ⟨rfl, rfl⟩
    go_wp2_with fail
    go_ret
    exact ⟨rfl, unhide HH⟩
  | some l =>
    obtain ⟨n, rfl, hn, hS, hl⟩ := Vz_eS hz
    rw [hz] at C1
    have C1 := hide C1
    by_cases hbig : 16 < k.size ∨ 16 < u.size
    · have hd : putS S (n : Int) k u = (S, 8) := by unfold putS; rw [hz]; simp only; rw [if_pos hbig]
      rw [hd]
      have HH := hide (same (Only.refl _ w))
      clear hK h1 h2 h3 h4 hz hd h same
      go_enter Tryz.func110, Tryz.ntmps110
      go_wp2_with fail
      refine (unhide C1).mono ?_
      rintro e w1 ⟨rfl, rfl⟩
      by_cases hk : 16 < k.size
      · have d1 : decide (16 < (k.size : Int)) = true := decide_eq_true (by omega)
        go_wp2_with fail
        go_ret
        exact ⟨rfl, unhide HH⟩
      · have d1 : decide (16 < (k.size : Int)) = false := decide_eq_false (by omega)
        have d2 : decide (16 < (u.size : Int)) = true := decide_eq_true (by omega)
        go_wp2_with fail
        go_ret
        exact ⟨rfl, unhide HH⟩
    · have d1 : decide (16 < (k.size : Int)) = false := decide_eq_false (by omega)
      have d2 : decide (16 < (u.size : Int)) = false := decide_eq_false (by omega)
      have hs := h.s.srt n l hS
      have hlen : l.length ≤ 64 := by have := h.s.eSlen n; rw [hl] at this; exact this
      have C2 := zplace_any h hn k
      rw [hl] at C2
      have On := h2.own n hn
      rw [hl] at On
      obtain ⟨a, cap, he⟩ := On.shape
      have nI : (n : Int) < 8 := by omega
      cases hh : hitL k l with
      | true =>
        obtain ⟨x, hx, hxk⟩ := hitL_some hh
        have hd : putS S (n : Int) k u = (updV S n (some (putL k u l)), 0) := by
          unfold putS; rw [hz]; simp only
          rw [if_neg hbig, if_neg (fun c => (hitL_get hs).1 hh c.1)]
          rfl
        rw [hd]
        rw [hh] at C2
        have C2 := hide C2
        have hpl := (List.getElem?_eq_some_iff.mp hx).1
        have jI : (plL k l : Int) < (l.length : Int) := by omega
        have hput : putL k u l = l.set (plL k l) (k, u) := putL_old (fun j f hj hf => plL_low k l j f hj hf) hx hxk
        have gt := (hitL_get hs).1 hh
        rw [he] at On
        obtain ⟨g, rfl, d0, d1'⟩ := On.at_ hx
        have ob : (es n).ownBlock = some g := by rw [he]; rfl
        clear hz hd d0 d1' hh
        go_enter Tryz.func110, Tryz.ntmps110
        go_wp2_with fail
        refine (unhide C1).mono ?_
        rintro e w1 ⟨rfl, rfl⟩
        go_wp2_with fail
        refine (unhide C2).mono ?_
        rintro e w2 ⟨rfl, o2⟩
        have k2 := h1.keep o2 (fun h => h)
        have O2 := On.keep o2 (fun _ _ h => h)
        obtain ⟨g', hg', e0, e1⟩ := O2.at_ hx
        obtain rfl : g = g' := by simpa using hg'
        have ro := zG_row hn k2
        rw [he] at ro
        have zf := ownFree O2 (plL k l * 2 + 1)
        have o3 : Only (fun q => q = g) w2 (w2.setCell ⟨g, plL k l * 2 + 1, none⟩ (.string u)) := only1 _ _
        have O3 := O2.setV hx u
        rw [hxk, ← hput, ← he] at O3
        have oA : Only (fun q => q = g) w (w2.setCell ⟨g, plL k l * 2 + 1, none⟩ (.string u)) := (o2.mono (fun _ _ h => h.elim)).trans o3 (fun _ _ h => h)
        have egb : EB es g := ⟨n, hn, ob⟩
        obtain ⟨E3, ap3, sub3⟩ := h2.row h3 hn oA (fun q e => .inl (by rw [e]; exact ob)) O3 (fun q hq => .inl hq)
        rw [putE_self] at E3 ap3 sub3
        have k3 := k2.keep o3 (fun e => (h4 g egb).2 e.symm)
        rw [← updV_same (l' := putL k u l) hS] at k3
        have HP := hide (And.intro (hK oA (fun q e => .inr (by rw [e]; exact egb)) k3 E3 ap3 sub3 (h.s.put hn hS k u (.inl gt)) (H' := Ext H w (w2.setCell ⟨g, plL k l * 2 + 1, none⟩ (.string u))) (fun q hq => .inl hq) (fun q hq => .inl (h4 q hq).1) (Ext.in h.inn oA.size)) (oA.mono (T := H) (fun q _ e => by rw [e]; exact (h4 g egb).1)))
        clear hK h1 h2 h3 h4 k2 O2 o3 O3 oA E3 ap3 sub3 k3 C1 C2 On hg' same h o2
        go_wp2_with fail
        go_ret
        exact ⟨rfl, unhide HP⟩
      | false =>
        rw [hh] at C2
        have C2 := hide C2
        have hgn := (hitL_get hs).2 hh
        by_cases hf : 64 ≤ (al8 S).length
        · have hd : putS S (n : Int) k u = (S, 6) := by
            unfold putS; rw [hz]; simp only
            rw [if_neg hbig, if_pos ⟨hgn, hf⟩]
          rw [hd]
          have d3 : decide (64 ≤ ((al8 S).length : Int)) = true := decide_eq_true (by omega)
          clear hz hd
          go_enter Tryz.func110, Tryz.ntmps110
          go_wp2_with fail
          refine (unhide C1).mono ?_
          rintro e w1 ⟨rfl, rfl⟩
          go_wp2_with fail
          refine (unhide C2).mono ?_
          rintro e w2 ⟨rfl, o2⟩
          have C3 := hide (zcount_any (h.quiet o2))
          have HH := hide (same o2)
          clear hK h1 h2 h3 h4 o2 same h
          go_wp2_with fail
          refine (unhide C3).mono ?_
          rintro e w3 ⟨rfl, rfl⟩
          go_wp2_with fail
          go_ret
          exact ⟨rfl, unhide HH⟩
        · have hd : putS S (n : Int) k u = (updV S n (some (putL k u l)), 0) := by
            unfold putS; rw [hz]; simp only
            rw [if_neg hbig, if_neg (fun c => hf c.2)]
            rfl
          rw [hd]
          have d3 : decide (64 ≤ ((al8 S).length : Int)) = false := decide_eq_false (by omega)
          have hple := plL_le k l
          have hput : putL k u l = l.take (plL k l) ++ (k, u) :: l.drop (plL k l) := putL_new hple (fun j f hj hf => plL_low k l j f hj hf) (fun e he => hitL_none hh e he)
          obtain ⟨i0, hi0, hz0, hz1, hz2⟩ := info_parts Tryz.infoKVz
          have HF := hide hf
          clear hz hd hf
          go_enter Tryz.func110, Tryz.ntmps110
          go_wp2_with fail
          refine (unhide C1).mono ?_
          rintro e w1 ⟨rfl, rfl⟩
          go_wp2_with fail
          refine (unhide C2).mono ?_
          rintro e w2 ⟨rfl, o2⟩
          have C3 := hide (zcount_any (h.quiet o2))
          go_wp2_with fail
          refine (unhide C3).mono ?_
          rintro e w3 ⟨rfl, rfl⟩
          have k2 := h1.keep o2 (fun h => h)
          have O2 := On.keep o2 (fun _ _ h => h)
          rw [he] at O2
          have ro := zG_row hn k2
          rw [he] at ro
          have own1 : w2.ownsRow 0 110 2 (.slice a l.length cap) l.length (zkv l) := O2
          clear C1 C2 C3
          go_upto_region 14 with (at_builtin; refine wpList_append2 _ rfl _ _ 78 rfl 110 i0 _ 2 32 Tryz.underlying78 hi0 hz0 hz1 hz2 rfl (by decide) _ _ _ rfl (own1.alloc _) ⟨w2.heap.size, 0, none⟩ 1 1 [.string ⟨#[]⟩, .string ⟨#[]⟩] rfl rfl ?c1 ?c2 ?c3 ?c4 ?_)
          case c1 => exact news_ok _ _ _ _ rfl
          case c2 => intro x hx; simp at hx; rw [hx]; rfl
          case c3 => unfold maxLen; omega
          case c4 => omega
          intro v' w4 hown hgrow hwhere
          obtain ⟨gg, cap3, rfl, _, ggl⟩ := hown.form (by omega)
          have o4 : Only (fun q => (es n).ownBlock = some q) w w4 := by
            have h5 : Only (fun q => (es n).ownBlock = some q) w2 w4 := ((Only.refl (fun q => (es n).ownBlock = some q) w2).alloc _).grown hgrow (fun q hq _ => by rw [he]; exact hq)
            exact (o2.mono (fun _ _ h => h.elim)).trans h5 (fun _ _ h => h)
          have ggw : (es n).ownBlock = some gg ∨ w.heap.size ≤ gg := by
            rcases hwhere gg rfl with c | c
            · exact .inl (by rw [he]; exact c)
            · right
              have := o2.size
              try simp only [World.size_alloc] at c
              omega
          have I4 : OwnK w4 (.slice (some ⟨gg, 0, none⟩) (l.length + 1) cap3) (l.take l.length ++ kvD :: l.drop l.length) := by
            unfold OwnK
            rw [List.take_length, List.drop_length, zkv_app, List.length_append]
            exact hown
          have ggm : gg ≠ m := fun e => by
            rcases ggw with c | c
            · exact (h4 gg ⟨n, hn, c⟩).2 e
            · have := h.inn m h.hm; omega
          have HI4 := hide (And.intro I4 o4)
          clear hown hgrow hwhere I4 o4 own1 O2 ro k2 o2
          go_upto_region 15 with fail
          go_loopw [12] (fun jv wr => ∃ (j : Nat) (y : KV), jv = .int .i64 j ∧ plL k l ≤ j ∧ j ≤ l.length ∧ OwnK wr (.slice (some ⟨gg, 0, none⟩) (l.length + 1) cap3) (l.take j ++ y :: l.drop j) ∧ Only (fun q => (es n).ownBlock = some q) w wr) (fun jv _ => (intOf jv).toNat)
          case atStart => exact ⟨l.length, kvD, by go_num, hple, Nat.le_refl _, (unhide HI4).1, (unhide HI4).2⟩
          case round =>
            clear HI4
            obtain ⟨j, y, rfl, hj1, hj2, I, oW⟩ := hrel
            have ylen : (l.take j ++ y :: l.drop j).length = l.length + 1 := by simp; omega
            by_cases hgt : plL k l < j
            · have a1 : decide ((plL k l : Int) < (j : Int)) = true := decide_eq_true (by omega)
              have a1p : (plL k l : Int) < (j : Int) := by omega
              obtain ⟨x, hx⟩ := get_ex (l := l) (i := j - 1) (by omega)
              have hx1 : (l.take j ++ y :: l.drop j)[j - 1]? = some x := by
                rw [List.getElem?_append_left (by simp; omega), List.getElem?_take, if_pos (by omega)]
                exact hx
              have hx2 : (l.take j ++ y :: l.drop j)[j]? = some y := by
                rw [List.getElem?_append_right (by simp; omega)]
                simp [Nat.min_eq_left hj2]
              obtain ⟨g1, hg1, e0, e1⟩ := I.at_ hx1
              obtain rfl : gg = g1 := by simpa using hg1
              obtain ⟨g2, hg2, e2, e3⟩ := I.at_ hx2
              obtain rfl : gg = g2 := by simpa using hg2
              have z0 := ownFree (show wr.ownsRow 0 110 2 _ (l.length + 1) _ from by have := I; unfold OwnK at this; rw [ylen] at this; exact this) (j * 2)
              have z1 := ownFree (show wr.ownsRow 0 110 2 _ (l.length + 1) _ from by have := I; unfold OwnK at this; rw [ylen] at this; exact this) (j * 2 + 1)
              have I2 := I.setE ylen (i := j) (by omega) x
              have hset : (l.take j ++ y :: l.drop j).set j x = l.take (j - 1) ++ x :: l.drop (j - 1) := by
                rw [List.set_append_right _ _ (by simp; omega)]
                have q1 : j - (l.take j).length = 0 := by simp; omega
                rw [q1, List.set_cons_zero]
                have hjx := (List.getElem?_eq_some_iff.mp hx)
                have t1 : l.take j = l.take (j - 1) ++ [x] := by
                  have := List.take_succ_eq_append_getElem (l := l) (i := j - 1) hjx.1
                  rw [show j - 1 + 1 = j by omega, hjx.2] at this
                  exact this
                have t2 : l.drop (j - 1) = x :: l.drop j := by
                  have := List.drop_eq_getElem_cons (l := l) (i := j - 1) hjx.1
                  rw [show j - 1 + 1 = j by omega, hjx.2] at this
                  exact this
                rw [t2]
                conv => lhs; rw [t1]
                simp
              rw [hset] at I2
              have oW2 := (oW.setCell (p := ⟨gg, j * 2, none⟩) (fun hlt => by
                rcases ggw with c | c
                · exact c
                · exact absurd hlt (by simp; omega)) (.string x.1)).setCell (p := ⟨gg, j * 2 + 1, none⟩) (fun hlt => by
                rcases ggw with c | c
                · exact c
                · exact absurd hlt (by simp; omega)) (.string x.2)
              have HI := hide (And.intro I2 oW2)
              have jc : ((j : Int) - 1) = ((j - 1 : Nat) : Int) := by omega
              have jl1 : ((j - 1 : Nat) : Int) < ((l.length + 1 : Nat) : Int) := by omega
              have jl2 : (j : Int) < ((l.length + 1 : Nat) : Int) := by omega
              clear I I2 oW oW2 hset hx hx1 hx2 hg1 hg2 ylen
              go_wp2_with fail
              exact ⟨⟨j - 1, x, rfl, by omega, by omega, (unhide HI).1, (unhide HI).2⟩, by simp [intOf]; omega⟩
            · have a1 : decide ((plL k l : Int) < (j : Int)) = false := decide_eq_false (by omega)
              have a1p : ¬ ((plL k l : Int) < (j : Int)) := by omega
              have ej : j = plL k l := by omega
              have hx2 : (l.take j ++ y :: l.drop j)[j]? = some y := by
                rw [List.getElem?_append_right (by simp; omega)]
                simp [Nat.min_eq_left hj2]
              obtain ⟨g2, hg2, e2, e3⟩ := I.at_ hx2
              obtain rfl : gg = g2 := by simpa using hg2
              have z0 := ownFree (show wr.ownsRow 0 110 2 _ (l.length + 1) _ from by have := I; unfold OwnK at this; rw [ylen] at this; exact this) (j * 2)
              have z1 := ownFree (show wr.ownsRow 0 110 2 _ (l.length + 1) _ from by have := I; unfold OwnK at this; rw [ylen] at this; exact this) (j * 2 + 1)
              have I2 := I.setE ylen (i := j) (by omega) (k, u)
              have hset : (l.take j ++ y :: l.drop j).set j (k, u) = putL k u l := by
                rw [List.set_append_right _ _ (by simp; omega)]
                have q1 : j - (l.take j).length = 0 := by simp; omega
                rw [q1, List.set_cons_zero, hput, ej]
              rw [hset] at I2
              have oW2 := (oW.setCell (p := ⟨gg, j * 2, none⟩) (fun hlt => by
                rcases ggw with c | c
                · exact c
                · exact absurd hlt (by simp; omega)) (.string k)).setCell (p := ⟨gg, j * 2 + 1, none⟩) (fun hlt => by
                rcases ggw with c | c
                · exact c
                · exact absurd hlt (by simp; omega)) (.string u)
              have km := h1.keep oW2 (fun e => (h4 m ⟨n, hn, e⟩).2 rfl)
              have ro := zG_row hn km
              have rf := km.free (8 + n)
              rw [he] at ro
              have o6 : Only (fun q => q = m) ((wr.setCell ⟨gg, j * 2, none⟩ (.string k)).setCell ⟨gg, j * 2 + 1, none⟩ (.string u)) (((wr.setCell ⟨gg, j * 2, none⟩ (.string k)).setCell ⟨gg, j * 2 + 1, none⟩ (.string u)).setCell ⟨m, 8 + n, none⟩ (.slice (some ⟨gg, 0, none⟩) (l.length + 1) cap3)) := only1 _ _
              have oA : Only (fun q => (es n).ownBlock = some q ∨ q = m) w (((wr.setCell ⟨gg, j * 2, none⟩ (.string k)).setCell ⟨gg, j * 2 + 1, none⟩ (.string u)).setCell ⟨m, 8 + n, none⟩ (.slice (some ⟨gg, 0, none⟩) (l.length + 1) cap3)) := (oW2.mono (fun _ _ h => .inl h)).trans o6 (fun _ _ h => .inr h)
              have k6 := km.setCell (8 + n) (.slice (some ⟨gg, 0, none⟩) (l.length + 1) cap3)
              rw [zG_set (by omega), stF_row, ← updV_same (l' := putL k u l) hS] at k6
              have I6 := I2.keep o6 (fun q hq e => by
                simp [Value.ownBlock] at hq
                rw [← hq] at e
                exact ggm e)
              obtain ⟨E6, ap6, sub6⟩ := h2.row h3 hn oA (fun q hq => by
                rcases hq with c | c
                · exact .inl c
                · exact .inr (fun hq' => (h4 q hq').2 c)) I6 (fun q hq => by
                simp [Value.ownBlock] at hq
                rw [← hq]
                exact ggw)
              have HP := hide (And.intro (hK oA (fun q hq => by
                rcases hq with c | c
                · exact .inr ⟨n, hn, c⟩
                · exact .inl c) k6 E6 ap6 sub6 (h.s.put hn hS k u (.inr (by have := unhide HF; omega))) (H' := Ext H w (((wr.setCell ⟨gg, j * 2, none⟩ (.string k)).setCell ⟨gg, j * 2 + 1, none⟩ (.string u)).setCell ⟨m, 8 + n, none⟩ (.slice (some ⟨gg, 0, none⟩) (l.length + 1) cap3))) (fun q hq => .inl hq) (fun q hq => by
                rcases sub6 q hq with c | c
                · exact .inl (h4 q c).1
                · exact .inr ⟨c, E6.lt q hq⟩) (Ext.in h.inn oA.size)) (oA.mono (T := H) (fun q _ hq => by
                rcases hq with c | c
                · exact (h4 q ⟨n, hn, c⟩).1
                · rw [c]; exact h.hm)))
              have jl2 : (j : Int) < ((l.length + 1 : Nat) : Int) := by omega
              have pj : (plL k l : Int) = (j : Int) := by omega
              subst ej
              clear hK h1 h2 h3 h4 I I2 oW oW2 km o6 oA k6 I6 E6 ap6 sub6 hset hx2 hg2 ylen pj hput On he same h
              go_wp2_with fail
              go_ret
              exact ⟨rfl, unhide HP⟩
set_option maxRecDepth 100000 in
set_option maxHeartbeats 4000000 in
theorem zdelete_open (h : ZAt w m S T U hist true H) (i : Int) (k : ByteArray) : Calls Tryz.prog 111 #[.pointer (some ⟨m, 0, none⟩), .int .i64 i, .string k] w fun e w' => e = .returned (.int .i64 (delS S i k).2) ∧ ZAt w' m (delS S i k).1 T U hist true (Ext H w w') ∧ Only H w w' := by
  obtain ⟨es, r, h1, h2, h3, h4, _, _, hK⟩ := h.curL
  have c4 := zG_opc h1
  have C1 := zused_any h i
  have same : ∀ {w1 : World}, Only (fun _ => False) w w1 → ZAt w1 m S T U hist true (Ext H w w1) ∧ Only H w w1 := fun o => ⟨(h.quiet o).mono (fun k hk => .inl hk) (Ext.in h.inn o.size), o.mono (fun _ _ h => h.elim)⟩
  cases hz : Vz S i with
  | none =>
    have hd : delS S i k = (S, 7) := by unfold delS; rw [hz]
    rw [hd]
    rw [hz] at C1
    have C1 := hide C1
    have HH := hide (same (Only.refl _ w))
    clear hK h1 h2 h3 h4 hz hd h same
    go_enter Tryz.func111, Tryz.ntmps111
    go_wp2_with fail
    refine (unhide C1).mono ?_
    rintro e w1 ⟨rfl, rfl⟩
    go_wp2_with fail
    go_ret
    exact ⟨rfl, unhide HH⟩
  | some l =>
    obtain ⟨n, rfl, hn, hS, hl⟩ := Vz_eS hz
    rw [hz] at C1
    have C1 := hide C1
    have hs := h.s.srt n l hS
    have hlen : l.length ≤ 64 := by have := h.s.eSlen n; rw [hl] at this; exact this
    have C2 := zplace_any h hn k
    rw [hl] at C2
    have On := h2.own n hn
    rw [hl] at On
    obtain ⟨a, cap, he⟩ := On.shape
    have nI : (n : Int) < 8 := by omega
    cases hh : hitL k l with
    | false =>
      have hd : delS S (n : Int) k = (S, 9) := by unfold delS; rw [hz]; simp only; rw [if_pos ((hitL_get hs).2 hh)]
      rw [hd]
      rw [hh] at C2
      have C2 := hide C2
      clear hz hd
      go_enter Tryz.func111, Tryz.ntmps111
      go_wp2_with fail
      refine (unhide C1).mono ?_
      rintro e w1 ⟨rfl, rfl⟩
      go_wp2_with fail
      refine (unhide C2).mono ?_
      rintro e w2 ⟨rfl, o2⟩
      have HH := hide (same o2)
      clear hK h1 h2 h3 h4 o2 same h
      go_wp2_with fail
      go_ret
      exact ⟨rfl, unhide HH⟩
    | true =>
      obtain ⟨x0, hx0, hxk⟩ := hitL_some hh
      have hd : delS S (n : Int) k = (updV S n (some (delL k l)), 0) := by
        unfold delS; rw [hz]; simp only
        rw [if_neg ((hitL_get hs).1 hh)]
        rfl
      rw [hd]
      rw [hh] at C2
      have C2 := hide C2
      have hpl := (List.getElem?_eq_some_iff.mp hx0).1
      have hdel : delL k l = l.eraseIdx (plL k l) := delL_at hs hx0 hxk
      rw [he] at On
      obtain ⟨g, rfl, d0, d1'⟩ := On.at_ hx0
      have ob : (es n).ownBlock = some g := by rw [he]; rfl
      clear hz hd d0 d1' hh
      go_enter Tryz.func111, Tryz.ntmps111
      go_wp2_with fail
      refine (unhide C1).mono ?_
      rintro e w1 ⟨rfl, rfl⟩
      go_wp2_with fail
      refine (unhide C2).mono ?_
      rintro e w2 ⟨rfl, o2⟩
      have k2 := h1.keep o2 (fun h => h)
      have ro := zG_row hn k2
      rw [he] at ro
      have O2 : OwnK w2 (.slice (some ⟨g, 0, none⟩) l.length cap) (l.take (plL k l) ++ x0 :: l.drop (plL k l + 1)) := by
        have e : l.take (plL k l) ++ x0 :: l.drop (plL k l + 1) = l := by
          have h5 := (List.getElem?_eq_some_iff.mp hx0)
          rw [← h5.2, List.getElem_cons_drop, List.take_append_drop]
        rw [e]
        exact On.keep o2 (fun _ _ h => h)
      have HO2 := hide (And.intro O2 (o2.mono (T := fun q => q = g) (fun _ _ h => h.elim)))
      clear C1 C2 k2 O2 o2
      go_upto_region 10 with fail
      go_loopw [10] (fun jv wr => ∃ (j : Nat) (y : KV), jv = .int .i64 j ∧ plL k l ≤ j ∧ j < l.length ∧ OwnK wr (.slice (some ⟨g, 0, none⟩) l.length cap) ((l.eraseIdx (plL k l)).take j ++ y :: l.drop (j + 1)) ∧ Only (fun q => q = g) w wr) (fun jv _ => 65 - (intOf jv).toNat)
      case atStart =>
        refine ⟨plL k l, x0, rfl, Nat.le_refl _, hpl, ?_, (unhide HO2).2⟩
        have e : (l.eraseIdx (plL k l)).take (plL k l) = l.take (plL k l) := by
          rw [List.eraseIdx_eq_take_drop_succ, List.take_append_of_le_length (by simp; omega), List.take_take, Nat.min_self]
        rw [e]
        exact (unhide HO2).1
      case round =>
        clear HO2 ro
        obtain ⟨j, y, rfl, hj1, hj2, I, oW⟩ := hrel
        have elen : (l.eraseIdx (plL k l)).length = l.length - 1 := List.length_eraseIdx_of_lt hpl
        have ylen : ((l.eraseIdx (plL k l)).take j ++ y :: l.drop (j + 1)).length = l.length := by simp; omega
        by_cases hgt : j + 1 < l.length
        · have a1 : decide ((j : Int) + 1 < (l.length : Int)) = true := decide_eq_true (by omega)
          have a1p : (j : Int) + 1 < (l.length : Int) := by omega
          obtain ⟨x, hx⟩ := get_ex (l := l) (i := j + 1) hgt
          have hx1 : ((l.eraseIdx (plL k l)).take j ++ y :: l.drop (j + 1))[j + 1]? = some x := by
            rw [List.getElem?_append_right (by simp; omega)]
            have q1 : j + 1 - ((l.eraseIdx (plL k l)).take j).length = 1 := by simp; omega
            rw [q1]
            simp [hx]
          have hx2 : ((l.eraseIdx (plL k l)).take j ++ y :: l.drop (j + 1))[j]? = some y := by
            rw [List.getElem?_append_right (by simp; omega)]
            have q1 : j - ((l.eraseIdx (plL k l)).take j).length = 0 := by simp; omega
            rw [q1]; rfl
          obtain ⟨g1, hg1, e0, e1⟩ := I.at_ hx1
          obtain rfl : g = g1 := by simpa using hg1
          obtain ⟨g2, hg2, e2, e3⟩ := I.at_ hx2
          obtain rfl : g = g2 := by simpa using hg2
          have z0 := ownFree (show wr.ownsRow 0 110 2 _ l.length _ from by have := I; unfold OwnK at this; rw [ylen] at this; exact this) (j * 2)
          have z1 := ownFree (show wr.ownsRow 0 110 2 _ l.length _ from by have := I; unfold OwnK at this; rw [ylen] at this; exact this) (j * 2 + 1)
          have I2 := I.setE ylen (i := j) (by omega) x
          have hset : ((l.eraseIdx (plL k l)).take j ++ y :: l.drop (j + 1)).set j x = (l.eraseIdx (plL k l)).take (j + 1) ++ x :: l.drop (j + 1 + 1) := by
            rw [List.set_append_right _ _ (by simp; omega)]
            have q1 : j - ((l.eraseIdx (plL k l)).take j).length = 0 := by simp; omega
            rw [q1, List.set_cons_zero]
            have hjx := (List.getElem?_eq_some_iff.mp hx)
            have t2 : l.drop (j + 1) = x :: l.drop (j + 1 + 1) := by
              have := List.drop_eq_getElem_cons (l := l) (i := j + 1) hjx.1
              rw [hjx.2] at this
              exact this
            have t1 : (l.eraseIdx (plL k l)).take (j + 1) = (l.eraseIdx (plL k l)).take j ++ [x] := by
              rw [List.take_succ_eq_append_getElem (by omega)]
              congr 2
              rw [List.getElem_eraseIdx]
              rw [dif_neg (by omega)]
              exact hjx.2
            rw [t1, t2]
            simp
          rw [hset] at I2
          have oW2 := (oW.setCell (p := ⟨g, j * 2, none⟩) (fun hlt => rfl) (.string x.1)).setCell (p := ⟨g, j * 2 + 1, none⟩) (fun hlt => rfl) (.string x.2)
          have HI := hide (And.intro I2 oW2)
          have jl1 : (j : Int) + 1 < (l.length : Int) := by omega
          have jl2 : (j : Int) < (l.length : Int) := by omega
          clear I I2 oW oW2 hset hx hx1 hx2 hg1 hg2 ylen elen
          go_wp2_with fail
          exact ⟨⟨j + 1, x, by go_num, by omega, by omega, (unhide HI).1, (unhide HI).2⟩, by simp [intOf]; omega⟩
        · have a1 : decide ((j : Int) + 1 < (l.length : Int)) = false := decide_eq_false (by omega)
          have a1p : ¬ ((j : Int) + 1 < (l.length : Int)) := by omega
          have ej : l.length = j + 1 := by omega
          have I2 : OwnK wr (.slice (some ⟨g, 0, none⟩) (l.eraseIdx (plL k l)).length cap) (l.eraseIdx (plL k l)) := by
            have e1 : (l.eraseIdx (plL k l)).take j = l.eraseIdx (plL k l) := List.take_of_length_le (by omega)
            have e2 : l.drop (j + 1) = [] := by rw [← ej, List.drop_length]
            rw [e1, e2] at I
            exact I.shrink (by omega)
          have km := h1.keep oW (fun e => (h4 g ⟨n, hn, ob⟩).2 e.symm)
          have ro := zG_row hn km.drew
          have rf := km.drew.free (8 + n)
          have rfr := km.free (8 + n)
          rw [he] at ro
          rw [elen] at I2
          have o6 : Only (fun q => q = m) wr (wr.setCell ⟨m, 8 + n, none⟩ (.slice (some ⟨g, 0, none⟩) (l.length - 1) cap)) := only1 _ _
          have oA : Only (fun q => q = g ∨ q = m) w (wr.setCell ⟨m, 8 + n, none⟩ (.slice (some ⟨g, 0, none⟩) (l.length - 1) cap)) := (oW.mono (fun _ _ h => .inl h)).trans o6 (fun _ _ h => .inr h)
          have k6 := km.setCell (8 + n) (.slice (some ⟨g, 0, none⟩) (l.length - 1) cap)
          rw [zG_set (by omega), stF_row, ← updV_same (l' := delL k l) hS] at k6
          have I6 := I2.keep o6 (fun q hq e => by
            simp [Value.ownBlock] at hq
            rw [← hq] at e
            exact (h4 g ⟨n, hn, ob⟩).2 e)
          rw [← hdel] at I6
          obtain ⟨E6, ap6, sub6⟩ := h2.row h3 hn oA (fun q hq => by
            rcases hq with c | c
            · exact .inl (by rw [c]; exact ob)
            · exact .inr (fun hq' => (h4 q hq').2 c)) I6 (fun q hq => by
            simp [Value.ownBlock] at hq
            rw [← hq]
            exact .inl ob)
          have HQ := hK oA (fun q hq => by
            rcases hq with c | c
            · exact .inr ⟨n, hn, by rw [c]; exact ob⟩
            · exact .inl c) k6 E6 ap6 sub6 (h.s.del hn hS k) (H' := Ext H w (wr.setCell ⟨m, 8 + n, none⟩ (.slice (some ⟨g, 0, none⟩) (l.length - 1) cap))) (fun q hq => .inl hq) (fun q hq => by
            rcases sub6 q hq with c | c
            · exact .inl (h4 q c).1
            · exact .inr ⟨c, E6.lt q hq⟩) (Ext.in h.inn oA.size)
          have HP := hide (And.intro HQ (oA.mono (T := H) (fun q _ hq => by
            rcases hq with c | c
            · exact (h4 q ⟨n, hn, by rw [c]; exact ob⟩).1
            · rw [c]; exact h.hm)))
          have jc : ((l.length : Int) - 1) = ((l.length - 1 : Nat) : Int) := by omega
          have capI : l.length ≤ cap := by
            rcases On.2 with ⟨h5, _⟩ | ⟨g', cap', cur, e1, _, _, hn', _⟩
            · exact absurd h5 (by simp)
            · simp at e1
              omega
          have capJ : l.length - 1 ≤ cap := by omega
          have capK : ((l.length - 1 : Nat) : Int) ≤ (cap : Int) := by omega
          have j0 : (0 : Int) ≤ ((l.length - 1 : Nat) : Int) := by omega
          have HEJ := hide ej
          clear hK h1 h2 h3 h4 I I2 oW km o6 oA k6 I6 E6 ap6 sub6 ylen elen On he same h ej hdel HQ
          go_upto_region 13 with fail
          go_region
          all_goals
            go_wp2_with fail
            go_ret
            exact ⟨rfl, (unhide HP).1.quiet (Only.refl _ _).drew, (unhide HP).2.drew⟩
end
end Go.Proofs.Qxb6500410aGreat
