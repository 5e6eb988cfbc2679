/-
  OWN WORK. QUERY: Exec whole; the engine's observers; New, Open.
-/
import Derived.Test.Qxb6500412aGreatS46
namespace Go.Proofs.Qxb6500412aGreat
open Go.RowKit Go.PlainAid
set_option linter.unusedSimpArgs false
set_option linter.unusedVariables false

section
variable {q : Gnd} {w : World} {k g x : Nat} {M : Mu} {K : Nat → Prop} {last : Int}
theorem sres_sch {fn : Func} {p q : Tmp} (h : fn.results = #[.cell p 79, .tmp q]) (tmps : Array Value) {w : World} {g : Nat} {c : Array Value} (hp : tmps.getD p undef = .pointer (some ⟨g, 0, none⟩)) (hn : Has w g c 79) (hc : c.size = 4) : (results fn tmps).run Tryz.prog w = .ok (.tuple #[.agg c, tmps.getD q undef]) w := by
  have hl := run_loadVar_row (P := Tryz.prog) w g 79 79 c (0, 0) _ hn Tryz.underlying79 rfl (by rw [Tryz.sizeESch4, hc])
  simp only [results, h]
  have hp' : tmps[p]?.getD undef = .pointer (some ⟨g, 0, none⟩) := by simpa using hp
  simp [Sem.run_bind, Result.andThen, hp', asAddr, hl]
/-- Only such a statement may make a durable step. -/
def ldQ (M : Mu) (s : Int) (t : ByteArray) : Prop := (exQ M s t).1.act s.toNat = false ∧ (parQ t).2.kind ≠ 3
section
variable {s : Int} {t : ByteArray} {st : St} {D : Db × Int}
theorem exQ_st (hl : ¬ 256 < t.size) (hg : gdS s) (hp : parB t = true) : exQ M s t = stQ M s (parQ t).2 := by
  unfold exQ
  rw [if_neg hl, if_neg (fun c => c hg), hp]
  rfl
theorem stQ_co (h : st.kind = 2) : (stQ M s st).1.act s.toNat = false := by
  unfold stQ
  rw [if_neg (by rw [h]; decide), if_pos h]
  by_cases a : M.act s.toNat = true
  · rw [if_pos a]; exact if_pos rfl
  · rw [if_neg a]; simpa using a
theorem alE_act (h : M.alE s = 0) : M.act s.toNat = false := by
  unfold Mu.alE at h
  by_cases g : gdS s
  · rw [if_neg (fun c => c g)] at h
    by_cases a : M.act s.toNat = true
    · rw [if_pos a] at h; cases h
    · simpa using a
  · rw [if_pos g] at h; cases h
theorem schQ_act (h : M.alE s = 0) : (schQ M s D).1.act s.toNat = false := by
  unfold schQ
  rw [if_neg (fun c => c h)]
  split
  · exact alE_act h
  · exact alE_act h
theorem stQ_au (hk : st.kind = 7 ∨ st.kind = 8 ∨ st.kind = 9 ∨ st.kind = 10) (ha : M.act s.toNat = false) : (stQ M s st).1.act s.toNat = false := by
  unfold stQ
  rw [if_neg (show ¬ st.kind = 1 by omega), if_neg (show ¬ st.kind = 2 by omega), if_neg (show ¬ st.kind = 3 by omega), if_neg (show ¬ st.kind = 4 by omega), if_neg (show ¬ st.kind = 5 by omega), if_neg (show ¬ st.kind = 6 by omega), if_neg (show ¬ M.act s.toNat = true by rw [ha]; decide)]
  split <;> exact if_pos rfl
theorem stQ_sch (hk : st.kind = 4 ∨ st.kind = 5 ∨ st.kind = 6) (h : M.alE s = 0) : (stQ M s st).1.act s.toNat = false := by
  unfold stQ
  rw [if_neg (show ¬ st.kind = 1 by omega), if_neg (show ¬ st.kind = 2 by omega), if_neg (show ¬ st.kind = 3 by omega)]
  rcases hk with k | k | k
  · rw [if_pos k]; exact schQ_act h
  · rw [if_neg (show ¬ st.kind = 4 by omega), if_pos k]; exact schQ_act h
  · rw [if_neg (show ¬ st.kind = 4 by omega), if_neg (show ¬ st.kind = 5 by omega), if_pos k]; exact schQ_act h
end
/-- Exec. -/
theorem sqexec_any (R : QR q w k g x M K last) (hrc : q.recs.length ≤ 300) (s : Int) (t : ByteArray) : Calls Tryz.prog 53 #[.pointer (some ⟨k, 0, none⟩), .int .i64 s, .string t] w (ExP (ldQ M s t) q w k g x M K (exQ M s t) (plnQ M s t last)) := by
  by_cases hl : 256 < t.size
  · exact sqexec_long R hl
  · by_cases hg : gdS s
    · cases hp : parB t with
      | false => exact sqexec_syn R hl hg hp
      | true =>
        have he := exQ_st (M := M) hl hg hp
        rcases parQ_kind hp with (h | h | h) | (h | h | ⟨h, hn⟩) | h
        · exact sqexec_begin R hrc hl hg hp h
        · exact sqexec_commit R ⟨by rw [he]; exact stQ_co h, by rw [h]; decide⟩ hrc hl hg hp h
        · exact sqexec_roll R hrc hl hg hp h
        · exact sqexec_create R (fun a => ⟨by rw [he]; exact stQ_sch (.inl h) a, by rw [h]; decide⟩) hrc hl hg hp h
        · exact sqexec_drop R (fun a => ⟨by rw [he]; exact stQ_sch (.inr (.inl h)) a, by rw [h]; decide⟩) hrc hl hg hp h
        · exact sqexec_index R (fun a => ⟨by rw [he]; exact stQ_sch (.inr (.inr h)) a, by rw [h]; decide⟩) hrc hl hg hp h hn
        · cases ha : M.act s.toNat with
          | true => exact sqexec_in R hl hg hp h ha
          | false => exact sqexec_auto R ⟨by rw [he]; exact stQ_au h ha, by omega⟩ hrc hl hg hp h ha
    · exact sqexec_sess R hl hg
set_option maxRecDepth 100000 in
theorem sqactive_any (R : QR q w k g x M K last) (s : Int) : Calls Tryz.prog 20 #[.pointer (some ⟨k, 0, none⟩), .int .i64 s] w fun e w' => e = .returned (.bool (decide (gdS s) && M.act s.toNat)) ∧ w = w' := by
  have e0 : w.cell? ⟨k, 0, none⟩ = some (.pointer (some ⟨g, 0, none⟩)) := R.has.cell 0
  have kl := R.has.lt
  have C1 := ractive_any R.rx s
  obtain ⟨b, hb⟩ : ∃ b, (decide (gdS s) && M.act s.toNat) = b := ⟨_, rfl⟩
  rw [hb] at C1 ⊢
  have C1 := hide C1
  clear R hb
  go_enter Tryz.func20, Tryz.ntmps20
  go_wp2_with fail
  refine (unhide C1).mono ?_
  rintro e w1 ⟨rfl, rfl⟩
  go_wp2_with fail
  go_ret
  exact ⟨rfl, rfl⟩
set_option maxRecDepth 100000 in
theorem sqlockOf_any (R : QR q w k g x M K last) (s : Int) (nm : ByteArray) : Calls Tryz.prog 82 #[.pointer (some ⟨k, 0, none⟩), .int .i64 s, .string nm] w fun e w' => e = .returned (.int .i64 (if gdS s then M.lk s.toNat nm else 0)) ∧ w = w' := by
  have e0 : w.cell? ⟨k, 0, none⟩ = some (.pointer (some ⟨g, 0, none⟩)) := R.has.cell 0
  have kl := R.has.lt
  have C1 := rlockOf_any R.rx s nm
  obtain ⟨b, hb⟩ : ∃ b, (if gdS s then M.lk s.toNat nm else 0) = b := ⟨_, rfl⟩
  rw [hb] at C1 ⊢
  have C1 := hide C1
  clear R hb
  go_enter Tryz.func82, Tryz.ntmps82
  go_wp2_with fail
  refine (unhide C1).mono ?_
  rintro e w1 ⟨rfl, rfl⟩
  go_wp2_with fail
  go_ret
  exact ⟨rfl, rfl⟩
/-- What View shows: its rows, its Errno. -/
def viQ (M : Mu) (s : Int) (nm : ByteArray) : List (List Vl) × Int := if gdS s then (match findD M.com nm with
  | none => ([], 10)
  | some _ => ((tabE (M.see s.toNat) nm).rows, 0)) else ([], 20)
theorem rviewQ_any (R : RX q w g x M K) (a : Int) (s : ByteArray) : Calls Tryz.prog 114 #[.pointer (some ⟨g, 0, none⟩), .int .i64 a, .string s] w fun e w' => RX q w' g x M K ∧ Only q.S w w' ∧ ∃ ra rn rc Z, e = .returned (.tuple #[.slice ra rn rc, .int .i64 (viQ M a s).2]) ∧ RL w.heap.size (.slice ra rn rc) Z w' ∧ Z.length ≤ 8 ∧ (∀ y ∈ Z, y.2.length ≤ 3) ∧ Z.map (·.2) = (viQ M a s).1 :=
  (rview_any R a s).mono (by
    rintro e w1 ⟨r, ho, h⟩
    refine ⟨r, ho, ?_⟩
    unfold viQ
    rcases h with ⟨hs, he⟩ | ⟨hs, hf, he⟩ | ⟨u, v, Z, hs, hf, hf2, he, hr, hz⟩
    · rw [if_neg hs]
      exact ⟨none, 0, 0, [], he, RL.nil _ _, by simp, by simp, rfl⟩
    · rw [if_pos hs, hf]
      exact ⟨none, 0, 0, [], he, RL.nil _ _, by simp, by simp, rfl⟩
    · have h4 : a.toNat < 4 := by have := hs.1; have := hs.2; omega
      have ok := (R.muQ.gs a.toNat h4).tb u (findD_mem hf).1
      have hl : Z.length ≤ 8 := by have e := congrArg List.length hz; rw [List.length_map] at e; rw [e]; exact ok.len
      obtain ⟨ra, rc, rfl⟩ := ownsRow_shape hr.own
      rw [if_pos hs]
      cases hc : findD M.com s with
      | none => exact absurd hc hf2
      | some _ =>
        refine ⟨ra, _, rc, Z, he, hr, hl, fun y hy => ?_, by unfold tabE; rw [hf]; exact hz⟩
        have : y.2 ∈ u.rows := by rw [← hz]; exact List.mem_map.mpr ⟨y, hy, rfl⟩
        rw [(ok.row _ this).len]
        exact ok.n3)
set_option maxRecDepth 100000 in
theorem sqview_any (R : QR q w k g x M K last) (a : Int) (s : ByteArray) : Calls Tryz.prog 55 #[.pointer (some ⟨k, 0, none⟩), .int .i64 a, .string s] w fun e w' => QR q w' k g x M K last ∧ Only q.S w w' ∧ ∃ ra rn rc Z, e = .returned (.tuple #[.slice ra rn rc, .int .i64 (viQ M a s).2]) ∧ RL w.heap.size (.slice ra rn rc) Z w' ∧ Z.length ≤ 8 ∧ (∀ y ∈ Z, y.2.length ≤ 3) ∧ Z.map (·.2) = (viQ M a s).1 := by
  have e0 : w.cell? ⟨k, 0, none⟩ = some (.pointer (some ⟨g, 0, none⟩)) := R.has.cell 0
  have kl := R.has.lt
  have C1 := rviewQ_any R.rx a s
  obtain ⟨V, hV⟩ : ∃ b, viQ M a s = b := ⟨_, rfl⟩
  rw [hV] at C1 ⊢
  have C1 := hide C1
  have HR := hide R
  clear R hV
  go_enter Tryz.func55, Tryz.ntmps55
  go_wp2_with fail
  refine (unhide C1).mono ?_
  rintro e w1 ⟨r, o, ra, rn, rc, Z, rfl, h1, h2, h3, h4⟩
  have HE := hide (show QR q w1 k g x M K last ∧ Only q.S w w1 ∧ ∃ ra' rn' rc' Z, (Ending.returned (.tuple #[.slice ra rn rc, .int .i64 V.2])) = .returned (.tuple #[.slice ra' rn' rc', .int .i64 V.2]) ∧ RL w.heap.size (.slice ra' rn' rc') Z w1 ∧ Z.length ≤ 8 ∧ (∀ y ∈ Z, y.2.length ≤ 3) ∧ Z.map (·.2) = V.1 from ⟨(unhide HR).turn r o (fun c => (unhide HR).off.1 (Gnd.S_A c)) (fun b hb => .inl hb), o, ra, rn, rc, Z, rfl, h1, h2, h3, h4⟩)
  clear C1 r o h1 h2 h3 h4
  go_wp2_with fail
  go_ret2
  exact unhide HE
set_option maxRecDepth 100000 in
theorem sqtables_any (R : QR q w k g x M K last) : Calls Tryz.prog 36 #[.pointer (some ⟨k, 0, none⟩)] w fun e w' => ∃ v, e = .returned v ∧ OwnN w' v (namesD M.com) ∧ Newer w v ∧ QR q w' k g x M K last ∧ Only q.S w w' := by
  have e0 : w.cell? ⟨k, 0, none⟩ = some (.pointer (some ⟨g, 0, none⟩)) := R.has.cell 0
  have kl := R.has.lt
  have C1 := hide (rtables_any R.rx)
  have HR := hide R
  clear R
  go_enter Tryz.func36, Tryz.ntmps36
  go_wp2_with fail
  refine (unhide C1).mono ?_
  rintro e w1 ⟨v, rfl, h1, h2, r, o⟩
  have HE := hide (show ∃ v', Ending.returned v = .returned v' ∧ OwnN w1 v' (namesD M.com) ∧ Newer w v' ∧ QR q w1 k g x M K last ∧ Only q.S w w1 from ⟨v, rfl, h1, h2, (unhide HR).turn r o (fun c => (unhide HR).off.1 (Gnd.S_A c)) (fun b hb => .inl hb), o⟩)
  clear C1 h1 h2 r o
  go_wp2_with fail
  go_ret
  exact unhide HE
set_option maxRecDepth 100000 in
theorem sqschemaOf_any (R : QR q w k g x M K last) (nm : ByteArray) : Calls Tryz.prog 37 #[.pointer (some ⟨k, 0, none⟩), .string nm] w fun e w' => QR q w' k g x M K last ∧ Only q.S w w' ∧ ∃ ca cn cc, e = .returned (.tuple #[.agg #[.string (scqD M.com nm).nm, .slice ca cn cc, .int .i64 (scqD M.com nm).pk, .int .i64 (scqD M.com nm).ix], .int .i64 (scqD M.com nm).z]) ∧ OwnC w' (.slice ca cn cc) (scqD M.com nm).cols ∧ Newer w (.slice ca cn cc) ∧ (scqD M.com nm).cols.length ≤ 3 := by
  have e0 : w.cell? ⟨k, 0, none⟩ = some (.pointer (some ⟨g, 0, none⟩)) := R.has.cell 0
  have kl := R.has.lt
  have o0 : Only (fun _ => False) w (w.alloc (.cells #[.string ⟨#[]⟩, .slice none 0 0, .int .i64 0, .int .i64 0] 79)) := (Only.refl _ w).alloc _
  have N0 := Has.new w #[.string ⟨#[]⟩, .slice none 0 0, .int .i64 0, .int .i64 0] 79
  have e1 : (w.alloc (.cells #[.string ⟨#[]⟩, .slice none 0 0, .int .i64 0, .int .i64 0] 79)).cell? ⟨k, 0, none⟩ = some (.pointer (some ⟨g, 0, none⟩)) := o0.cellS e0
  have C1 := rschemaQ_any (R.quiet o0).rx nm
  obtain ⟨sc, hV⟩ : ∃ b, scqD M.com nm = b := ⟨_, rfl⟩
  rw [hV] at C1 ⊢
  have C1 := hide C1
  have HR := hide (And.intro R (And.intro N0 (And.intro o0 (R.quiet o0))))
  have hsz : (w.alloc (.cells #[.string ⟨#[]⟩, .slice none 0 0, .int .i64 0, .int .i64 0] 79)).heap.size = w.heap.size + 1 := by simp
  have HSZ := hide hsz
  clear R hV o0 N0 hsz
  go_enter Tryz.func37, Tryz.ntmps37
  go_upto_region 1 with fail
  generalize w.alloc (.cells #[.string ⟨#[]⟩, .slice none 0 0, .int .i64 0, .int .i64 0] 79) = w0 at *
  generalize hH : w.heap.size = H at *
  have kl0 : k < w0.heap.size := cell_lt e1
  go_wp2_with fail
  refine (unhide C1).mono ?_
  rintro e w1 ⟨r, o, ca, cn, cc, rfl, h1, h2, h3⟩
  have hQ := (unhide HR).2.2.2
  have Q1 := hQ.turn r o (fun c => hQ.off.1 (Gnd.S_A c)) (fun b hb => .inl hb)
  have aH := (unhide HR).1.apn (b := H) (by omega)
  have N1 := (unhide HR).2.1.keep o aH.S
  have hz := unhide HSZ
  have H5 := has_setAll [.string sc.nm, .slice ca cn cc, .int .i64 sc.pk, .int .i64 sc.ix] N1 rfl
  have O5 := only_setW H [.string sc.nm, .slice ca cn cc, .int .i64 sc.pk, .int .i64 sc.ix] 0 w1
  have r0 : w1.cell? ⟨H, 0, none⟩ = some (.string ⟨#[]⟩) := N1.cell 0
  have r1 : w1.cell? ⟨H, 1, none⟩ = some (.slice none 0 0) := N1.cell 1
  have r2 : w1.cell? ⟨H, 2, none⟩ = some (.int .i64 0) := N1.cell 2
  have r3 : w1.cell? ⟨H, 3, none⟩ = some (.int .i64 0) := N1.cell 3
  have f0 := N1.free 0
  have f1 := N1.free 1
  have f2 := N1.free 2
  have f3 := N1.free 3
  have rl := N1.lt
  have FF := hide (And.intro H5 (show QR q (setW H [.string sc.nm, .slice ca cn cc, .int .i64 sc.pk, .int .i64 sc.ix] 0 w1) k g x M K last ∧ Only q.S w (setW H [.string sc.nm, .slice ca cn cc, .int .i64 sc.pk, .int .i64 sc.ix] 0 w1) ∧ ∃ ca' cn' cc', (Ending.returned (.tuple #[.agg #[.string sc.nm, .slice ca cn cc, .int .i64 sc.pk, .int .i64 sc.ix], .int .i64 sc.z])) = .returned (.tuple #[.agg #[.string sc.nm, .slice ca' cn' cc', .int .i64 sc.pk, .int .i64 sc.ix], .int .i64 sc.z]) ∧ OwnC (setW H [.string sc.nm, .slice ca cn cc, .int .i64 sc.pk, .int .i64 sc.ix] 0 w1) (.slice ca' cn' cc') sc.cols ∧ Newer w (.slice ca' cn' cc') ∧ sc.cols.length ≤ 3 from by
    refine ⟨Q1.keep O5 (fun b hb (e : b = H) => ?_), (((unhide HR).2.2.1.mono (fun _ _ e => e.elim)).trans o (fun _ _ e => e)).lateS O5 (fun b (e : b = H) => by omega), ca, cn, cc, rfl, h1.keep O5 (fun b hb (e : b = H) => by have := h2 b hb; omega), fun b hb => by have := h2 b hb; omega, h3⟩
    subst e
    rcases hb with c | c | c | c
    · exact aH.1 c
    · exact aH.2.1 c
    · exact aH.2.2.1 c
    · exact aH.2.2.2 c))
  simp only [setW, Nat.zero_add, Nat.reduceAdd] at FF
  clear H5 O5 N1 hQ Q1 aH C1 r o h1 h2 h3 hz
  go_wp2_with fail
  refine bodyPost_ret (sres_sch rfl _ rfl (unhide FF).1 rfl) rfl ?_
  exact (unhide FF).2
set_option maxRecDepth 100000 in
theorem sqlast_any (R : QR q w k g x M K last) : Calls Tryz.prog 24 #[.pointer (some ⟨k, 0, none⟩)] w fun e w' => e = .returned (.int .i64 last) ∧ w = w' := by
  have e0 : w.cell? ⟨k, 1, none⟩ = some (.int .i64 last) := R.has.cell 1
  have kl := R.has.lt
  clear R
  go_enter Tryz.func24, Tryz.ntmps24
  go_wp2_with fail
  go_ret
  exact ⟨rfl, rfl⟩
set_option maxRecDepth 100000 in
theorem sqnew_any {f : Nat} {w : World} (g : Nat) (hf : f = 11 ∨ f = 15) : Calls Tryz.prog f #[.pointer (some ⟨g, 0, none⟩)] w fun e w' => e = .returned (.pointer (some ⟨w.heap.size, 0, none⟩)) ∧ Has w' w.heap.size #[.pointer (some ⟨g, 0, none⟩), .int .i64 0] 71 ∧ Only (fun _ => False) w w' := by
  have N := Has.new w #[.pointer (some ⟨g, 0, none⟩), .int .i64 0] 71
  have o : Only (fun _ => False) w (w.alloc (.cells #[.pointer (some ⟨g, 0, none⟩), .int .i64 0] 71)) := (Only.refl _ _).alloc _
  have HN := hide (And.intro N o)
  clear N o
  rcases hf with rfl | rfl
  · go_enter Tryz.func11, Tryz.ntmps11
    go_wp2_with fail
    go_ret
    exact ⟨rfl, (unhide HN).1, (unhide HN).2⟩
  · go_enter Tryz.func15, Tryz.ntmps15
    go_wp2_with fail
    go_ret
    exact ⟨rfl, (unhide HN).1, (unhide HN).2⟩
end
end Go.Proofs.Qxb6500412aGreat
