/-
  OWN WORK. THE B-TREE: Delete, Drop, Create.
-/
import Derived.Test.Qxb6500412aGreatBOpI
import Derived.Test.Qxb6500412aGreatBDl2
namespace Go.Proofs.Qxb6500412aGreat
open Go.RowKit Go.PlainAid
set_option linter.unusedSimpArgs false
set_option linter.unusedVariables false

theorem delL_len {k v : ByteArray} {l : List KV} (hs : Srt l) (hk : getL k l = some v) : (delL k l).length + 1 = l.length := by
  have hm := getL_some hk
  obtain ⟨i, hi, he⟩ := List.mem_iff_getElem.mp hm
  rw [delL_at hs (List.getElem?_eq_getElem hi) (by rw [he]), List.length_eraseIdx, if_pos hi]
  omega
section
variable {q : Gnd} {w : World} {view : List ByteArray} {F : Fo}
set_option maxRecDepth 100000 in
set_option maxHeartbeats 4000000 in
theorem bdelete_ok (A : FA q w true view) (I : FI (NV view) F) {h : Int} {r : Root} (hf : Fz F h = some r) (k v0 : ByteArray) (hk : getL k (entsL r.h (itT r.t)) = some v0) :
    Calls Tryz.prog 242 #[.pointer (some ⟨q.f, 0, none⟩), .int .i64 h, .string k] w fun e w' => e = .returned (.int .i64 0) ∧ Turned q F h.toNat (fun ro => ∃ r', ro = some r' ∧ entsR ro = delL k (entsR (F h.toNat))) w w' := by
  have T := I.tree hf
  have z1 := T.z1
  have c1 := A.ptr
  have C := hide (qintxn A)
  obtain ⟨d, hn, hd, CR⟩ := rootT_any A I hf
  have CR := hide CR
  have hhas : HasK k (entsL r.h (itT r.t)) := ⟨(k, v0), getL_some hk, rfl⟩
  have C2 : ∀ w (A : FA q w true view), Calls Tryz.prog 303 #[.pointer (some ⟨q.f, 0, none⟩), .int .i64 (pgT r.t), .string k, .int .i64 8] w fun e w' => e = .returned (.tuple #[.string v0, .int .i64 0]) ∧ FA q w' true view ∧ Only q.S w w' := fun w A => by
    have := find_any (k := k) r.h A T.gd (lt_bE k) trivial 8 T.ht (by omega)
    rw [hk] at this
    exact this
  have C2 := hide C2
  have C4 := hide (fun w (A : FA q w true view) => del_any (k := k) r.h A T.gd (lt_bE k) trivial hhas 8 T.ht (by omega))
  have hdl := delL_len (Ch_srt (fun e he => (T.gd.sz.2.2 e he).2) T.gd.bd.2) hk
  have eF : entsR (F h.toNat) = entsL r.h (itT r.t) := by rw [T.hr]; rfl
  have hs := hd.sz
  have q8 : 8 < d.size := by omega
  have q08 := T.h8
  have q00 := T.h0
  have hct := hd.ct
  have hcl : 1 ≤ (all8 entsR F).length := by
    have := upd_len F T.hi none
    rw [eF] at this
    simp [entsR] at this
    omega
  have hc64 := I.ct
  obtain ⟨n, hnn⟩ : ∃ n, (all8 entsR F).length = n + 1 := ⟨(all8 entsR F).length - 1, by omega⟩
  rw [hnn] at hct hcl hc64
  have HH := hide (And.intro hn (And.intro hd (And.intro T (And.intro eF (And.intro hdl hnn)))))
  have hb8 := byteAt_idx d 8 q8
  rw [hct] at hb8
  have en0 : ((n + 1 : Nat) : Int) = (n : Int) + 1 := by clear hb8; omega
  rw [en0] at hb8
  have HB8 := hide hb8
  have HDN := hide hct
  have wn : IntKind.u8.wrap ((n : Int) + 1 - 1) = (n : Int) := by clear hb8; rw [IntWalk.u8_in] <;> omega
  have wn2 : IntKind.u8.wrap (n : Int) = (n : Int) := by clear hb8; exact IntWalk.u8_in _ (by omega)
  clear hn hd hf T hk hhas hnn hct eF hdl hb8 en0
  go_enter Tryz.func242, Tryz.ntmps242
  go_wp2_with fail
  refine (unhide C).mono ?_
  rintro e w1 ⟨rfl, rfl⟩
  go_wp2_with fail
  refine (unhide CR).mono ?_
  rintro e w1 ⟨rfl, A1, o1⟩
  have C3 := hide (unhide C2 w1 A1)
  have O1 := hide o1
  clear A1 o1 C2
  go_wp2_with fail
  refine (unhide C3).mono ?_
  rintro e w2 ⟨rfl, A2, o2⟩
  have C5 := hide (unhide C4 w2 A2)
  have O2 := hide ((unhide O1).qt o2)
  clear A2 o2 C4
  go_wp2_with fail
  refine (unhide C5).mono ?_
  rintro e w3 ⟨view3, t', freed, rfl, D, A3, o3⟩
  have O3 := hide ((unhide O2).qt o3)
  have AA3 := hide A3
  have DD := hide D
  clear A3 o3 C5
  have h31 : NV view3 1 = some d := by
    rw [D.fr.out 1 (I.one (unhide HH).2.2.1.hi (unhide HH).2.2.1.hr)]
    exact (unhide HH).1
  have CA : ∀ d2 : ByteArray, d2.size = 128 → ∀ w, Calls Tryz.prog 153 #[.string d2, .int .i64 8, .int .u8 (n : Int)] w fun e w' => e = .returned (.string (withB d2 8 n)) ∧ Only (fun _ => False) w w' := fun d2 hs2 w => setAt_any d2 8 n hs2 (by omega) (by omega) w
  have CA := hide CA
  have stay : ∀ w5 : World, FA q w5 true view3 → Only q.S w w5 → (r.h = 0 ∨ 2 ≤ (itT t').length) → ∀ (w6 : World) (view6 : List ByteArray), FA q w6 true view6 → NV view6 = setN (NV view3) 1 (some (withB d 8 n)) → Only q.S w w6 → Turned q F h.toNat (fun ro => ∃ r', ro = some r' ∧ entsR ro = delL k (entsR (F h.toNat))) w w6 := by
    intro w5 A5 o5 h2 w6 view6 A6 e6 o6
    obtain ⟨hn, hd, T, eF, hdl, hnn⟩ := unhide HH
    have hul := upd_len F T.hi (some ⟨r.h, t'⟩)
    have eN : entsR (some ⟨r.h, t'⟩) = delL k (entsL r.h (itT r.t)) := D.en
    have hlen : (all8 entsR (upd F h.toNat (some ⟨r.h, t'⟩))).length = n := by rw [eF, eN] at hul; omega
    have hD := Dir.cnt (d := d) (G := upd F h.toNat (some ⟨r.h, t'⟩)) hs (fun j hj => by
      by_cases e : j = h.toNat
      · subst e
        rw [upd_same, hd.rt _ hj, T.hr]
        exact D.pg.symm
      · rw [upd_other _ _ e, hd.rt j hj]) (by omega)
    rw [hlen] at hD
    have hI := I.delA T.hi T.hr D h2 hD (by omega)
    rw [← e6] at hI
    exact ⟨view6, some ⟨r.h, t'⟩, ⟨_, rfl, by rw [eN, eF]⟩, A6, hI, o6⟩
  have STAY := hide stay
  clear stay D
  by_cases hth : (itT t').length < 2
  · have b1 : decide ((itT t').length < 2) = true := decide_eq_true hth
    rw [b1]
    clear b1
    have hst := (unhide DD).st
    have hpg := (unhide DD).pg
    have h3t : NV view3 (pgT r.t) = some (page (ndOf r.h (itT t'))) := by rw [← hpg]; exact hst.1
    have l2 := lo0_l2 r.h
    have ft : Fits r.h (itT t') := Fits.of (N := NV view3) NV_lt (unhide DD).sz.2.1 (by
      rcases l2 with h1 | h1
      · exact .inl h1
      · have := (unhide DD).sz.1
        rw [h1] at this
        exact .inr (by omega)) (unhide DD).sz.2.2 hst.2
    have CL := hide (load_any (unhide AA3) h3t ft)
    clear ft l2
    go_wp2_with fail
    refine (unhide CL).mono ?_
    rintro e w4 ⟨xt, rfl, rx, A4, o4⟩
    have sz4 : w.heap.size ≤ w4.heap.size := Nat.le_trans (unhide O3).size o4.size
    have A4 := hide A4
    have O4 := hide ((unhide O3).qt o4)
    have RX := hide rx
    clear o4 rx CL
    go_upto_region 14 with (first | (refine wpList_alloc_ndd 12 rfl rfl rfl ?_; intro b w5 hB gB oB; have HB := hide hB; have OB := hide oB; clear hB oB) | (refine wpList_store_nd rfl _ _ rfl b xt rfl rfl (unhide HB) ?_; intro w6 n6 o6))
    have gb0 : w.heap.size ≤ b := Nat.le_trans sz4 gB
    have nSb := A.nS gb0
    have A6 := hide (((unhide A4).quiet (unhide OB)).loc A gb0 o6)
    have O6 := hide (((unhide O4).q0 (unhide OB)).qn o6 gb0)
    have N6 := hide n6
    clear n6 o6 HB OB gB A4 O4 sz4
    have ck := (unhide N6).kind.1
    by_cases h0 : r.h = 0
    · have kk : ((xt.k : Int) == 2) = false := by
        have rx := unhide RX
        obtain ⟨rh, rt⟩ := r
        cases rh with
        | zero => exact kk_f (b := 2) (by rw [Rep.kd0 rx]; omega)
        | succ g => cases h0
      have hb8 := unhide HB8
      go_wp2_with fail
      clear hb8
      refine (unhide CA d hs _).mono ?_
      rintro e w7 ⟨rfl, o7⟩
      have A7 := (unhide A6).quiet o7
      have CP := hide (putDir_any A7 h31 (withB_size d 8 n hs (by omega)))
      have O7 := hide ((unhide O6).q0 o7)
      clear o7 A7
      go_wp2_with fail
      refine (unhide CP).mono ?_
      rintro e w8 ⟨rfl, ⟨view8, A8, e8⟩, o8⟩
      have FF := hide (And.intro A8 (And.intro e8 ((unhide O7).qt o8)))
      clear A8 e8 o8
      go_wp2_with fail
      go_ret
      exact ⟨rfl, unhide STAY _ (unhide A6) (unhide O6) (.inl h0) _ _ (unhide FF).1 (unhide FF).2.1 (unhide FF).2.2⟩
    · obtain ⟨g, t, hrg⟩ : ∃ (g : Nat) (t : Tr (g + 2)), r = ⟨g + 1, t⟩ := by
        obtain ⟨rh, rt⟩ := r
        cases rh with
        | zero => exact absurd rfl h0
        | succ g => exact ⟨g, rt, rfl⟩
      subst hrg
      have rx := unhide RX
      have kk : ((xt.k : Int) == 2) = true := kk_t (b := 2) (Rep.kd1 rx)
      have hsz1 := (unhide DD).sz.1
      have hl1 : (itT t').length = 1 := by
        have e : lo0 (g + 1) = 2 := rfl
        rw [e] at hsz1
        omega
      obtain ⟨s1, c, hc⟩ : ∃ s1 c, itT t' = [(s1, c)] := by
        cases hi : itT t' with
        | nil => rw [hi] at hl1; simp at hl1
        | cons a b =>
          rw [hi] at hl1
          have : b = [] := by simpa using hl1
          subst this
          exact ⟨a.1, a.2, rfl⟩
      have hC0 : xt.C 0 = pgT c := by
        rw [hc] at rx
        exact kid_at (xs := []) rx
      have ck0 := (unhide N6).kid0.1
      rw [hC0] at ck0
      have cp := (unhide A6).ptr
      have CQ := hide (qfree (unhide A6) h3t)
      have hcst : Sto (NV view3) (g + 1) c := hst.2 (s1, c) (by rw [hc]; simp)
      have pc72 := NV_lt _ _ hcst.1
      clear rx
      go_wp2_with fail
      refine (unhide CQ).mono ?_
      rintro e w7 ⟨rfl, ⟨view7, A7, e7⟩, o7⟩
      have N7 := hide ((unhide N6).keep o7 nSb)
      have A7 := hide A7
      have O7 := hide ((unhide O6).qt o7)
      have E7 := hide e7
      clear o7 e7 CQ ck ck0 cp
      have ck0 := (unhide N7).kid0.1
      rw [hC0] at ck0
      have hip : h.toNat < 128 := by omega
      have wpc : IntKind.u8.wrap (pgT c : Int) = (pgT c : Int) := IntWalk.u8_in _ (by omega)
      have CA1 : ∀ w, Calls Tryz.prog 153 #[.string d, .int .i64 h, .int .u8 (pgT c : Int)] w fun e w' => e = .returned (.string (withB d h.toNat (pgT c))) ∧ Only (fun _ => False) w w' := fun w => by
        have := setAt_any d h.toNat (pgT c) hs hip (by omega) w
        rw [show ((h.toNat : Nat) : Int) = h by omega] at this
        exact this
      have CA1 := hide CA1
      go_wp2_with fail
      refine (unhide CA1 _).mono ?_
      rintro e w11 ⟨rfl, o11⟩
      have s2 := withB_size d h.toNat (pgT c) hs hip
      have b2 : byteAt (withB d h.toNat (pgT c)) 8 = n + 1 := by rw [byteAt_with d h.toNat (pgT c) hs hip (by omega) 8 (by omega), if_neg (by omega)]; exact unhide HDN
      obtain ⟨d2, hd2⟩ : ∃ d2, withB d h.toNat (pgT c) = d2 := ⟨_, rfl⟩
      rw [hd2] at s2 b2 ⊢
      have q82 : 8 < d2.size := by omega
      have hb8 := byteAt_idx d2 8 q82
      rw [b2] at hb8
      have en0 : ((n + 1 : Nat) : Int) = (n : Int) + 1 := by clear hb8; omega
      rw [en0] at hb8
      have HB2 := hide hb8
      have HD2 := hide hd2
      have A11 := hide ((unhide A7).quiet o11)
      have O11 := hide ((unhide O7).q0 o11)
      clear hb8 hd2 b2 o11 O7 en0 ck0
      have hb8 := unhide HB2
      go_wp2_with fail
      clear hb8
      refine (unhide CA d2 s2 _).mono ?_
      rintro e w12 ⟨rfl, o12⟩
      have A12 := (unhide A11).quiet o12
      have hp1 : pgT t ≠ 1 := fun e => I.one (unhide HH).2.2.1.hi (unhide HH).2.2.1.hr (by have h9 := pgT_in t; rw [e] at h9; exact h9)
      have h71 : NV view7 1 = some d := by rw [unhide E7, setN_other _ _ (fun e => hp1 e.symm)]; exact h31
      have CP := hide (putDir_any A12 h71 (withB_size d2 8 n s2 (by omega)))
      have O12 := hide ((unhide O11).q0 o12)
      clear o12 A12
      go_wp2_with fail
      refine (unhide CP).mono ?_
      rintro e w13 ⟨rfl, ⟨view13, A13, e13⟩, o13⟩
      have FF := hide (And.intro A13 (And.intro e13 ((unhide O12).qt o13)))
      clear A13 e13 o13
      go_wp2_with fail
      go_ret
      obtain ⟨hn, hd, T, eF, hdl, hnn⟩ := unhide HH
      have D := unhide DD
      have hul := upd_len F T.hi (some ⟨g, c⟩)
      have eN : entsR (some ⟨g, c⟩) = delL k (entsL (g + 1) (itT t)) := by
        rw [← D.en, hc, entsL_cons, entsL_nil, List.append_nil]
        rfl
      have hlen : (all8 entsR (upd F h.toNat (some ⟨g, c⟩))).length = n := by rw [eF, eN] at hul; omega
      have hR := hd.root T.hi (ro := some ⟨g, c⟩) (show pgT c < 256 by omega)
      have hR2 : ∀ j, j < 8 → byteAt d2 j = pgR (upd F h.toNat (some ⟨g, c⟩) j) := by
        intro j hj
        rw [← unhide HD2]
        exact hR.2.1 j hj
      have hD := Dir.cnt (d := d2) (G := upd F h.toNat (some ⟨g, c⟩)) s2 hR2 (by omega)
      rw [hlen] at hD
      have hI := I.delB T.hi T.hr D hc hD (by omega)
      rw [← unhide E7, ← (unhide FF).2.1] at hI
      exact ⟨rfl, view13, some ⟨g, c⟩, ⟨_, rfl, by rw [eN, eF]⟩, (unhide FF).1, hI, (unhide FF).2.2⟩
  · have b1 : decide ((itT t').length < 2) = false := decide_eq_false hth
    rw [b1]
    clear b1
    have hb8 := unhide HB8
    go_wp2_with fail
    clear hb8
    refine (unhide CA d hs _).mono ?_
    rintro e w4 ⟨rfl, o4⟩
    have A4 := (unhide AA3).quiet o4
    have CP := hide (putDir_any A4 h31 (withB_size d 8 n hs (by omega)))
    have O4 := hide ((unhide O3).q0 o4)
    clear o4 A4
    go_wp2_with fail
    refine (unhide CP).mono ?_
    rintro e w5 ⟨rfl, ⟨view5, A5, e5⟩, o5⟩
    have FF := hide (And.intro A5 (And.intro e5 ((unhide O4).qt o5)))
    clear A5 e5 o5
    go_wp2_with fail
    go_ret
    exact ⟨rfl, unhide STAY _ (unhide AA3) (unhide O3) (.inr (by omega)) _ _ (unhide FF).1 (unhide FF).2.1 (unhide FF).2.2⟩
end
end Go.Proofs.Qxb6500412aGreat
