/-
  OWN WORK. THE B-TREE: scan.
-/
import Derived.Test.Qxb6500412aGreatBKv
namespace Go.Proofs.Qxb6500412aGreat
open Go.RowKit Go.PlainAid
set_option linter.unusedSimpArgs false
set_option linter.unusedVariables false

def seC (o : Option KV) : Int := if o.isSome then 0 else 9
def seV (o : Option KV) : Value := .tuple #[kvA (o.getD kvD), .int .i64 (seC o)]
theorem seekL_at {k : ByteArray} {past : Bool} : ∀ {l : List KV} {i : Nat} {e : KV}, (∀ (j : Nat) (f : KV), j < i → l[j]? = some f → hit k past f = false) → l[i]? = some e → hit k past e = true → seekL k past l = some e
  | [], i, e, _, h, _ => by simp at h
  | a :: r, 0, e, h1, h2, h3 => by
    simp at h2
    subst h2
    unfold seekL
    rw [List.find?_cons_of_pos h3]
  | a :: r, i + 1, e, h1, h2, h3 => by
    have hr : r[i]? = some e := by simpa using h2
    have ih := seekL_at (k := k) (past := past) (l := r) (i := i) (e := e) (fun j f hj hf => h1 (j + 1) f (by omega) (by simpa using hf)) hr h3
    unfold seekL at ih ⊢
    rw [List.find?_cons_of_neg (by simpa using h1 0 a (by omega) (by simp))]
    exact ih
theorem seekL_no {k : ByteArray} {past : Bool} {l : List KV} (h : ∀ (j : Nat) (f : KV), l[j]? = some f → hit k past f = false) : seekL k past l = none := by
  unfold seekL
  refine List.find?_eq_none.mpr (fun e he => ?_)
  obtain ⟨i, hi, rfl⟩ := List.mem_iff_getElem.mp he
  simpa using h i _ (List.getElem?_eq_getElem hi)
section
variable {q : Gnd} {op : Bool} {view : List ByteArray} {k : ByteArray} {past : Bool}
set_option maxRecDepth 100000 in
set_option maxHeartbeats 6000000 in
theorem scan_leaf {w : World} (A : FA q w op view) {s : ByteArray} {hi : Option ByteArray} {lo : Nat} {t : Tr 1} (g : Gd (NV view) 0 s hi lo t) (fuel : Nat) (hfu : 0 < fuel) (hf8 : fuel ≤ 8) :
    Calls Tryz.prog 349 #[.pointer (some ⟨q.f, 0, none⟩), .int .i64 (pgT t), .string k, .bool past, .int .i64 fuel] w fun e w' => e = .returned (seV (seekL k past (entsL 0 (itT t)))) ∧ FA q w' op view ∧ Only q.S w w' := by
  have hl3 : (itT t).length ≤ 3 := g.sz.2.1
  have a0 : decide ((fuel : Int) ≤ 0) = false := decide_eq_false (by omega)
  go_enter Tryz.func349, Tryz.ntmps349
  go_upto_region 1 with (first | (refine wpList_alloc_kvd 10 rfl rfl rfl ?_; intro p w0 hP gP oP))
  have C := hide (load_any (A.quiet oP) g.st.1 g.fits)
  have HP := hide hP
  have OP := hide oP
  have nSp := A.nS gP
  have plt := Has.lt hP
  clear hP oP
  go_wp2_with fail
  refine (unhide C).mono ?_
  rintro e w1 ⟨x, rfl, r, A1, o1⟩
  have HH := hide (And.intro r (And.intro A1 ((unhide OP).up.qt o1)))
  have rk := r.kd0
  have kk : ((x.k : Int) == 1) = true := kk_t (b := 1) rk
  have xn := r.n
  have x3 : x.n ≤ 3 := by omega
  have hsz := o1.size
  have P1 := hide ((unhide HP).keep o1 nSp)
  clear A1 o1 r rk HP OP
  go_upto_region 2 with (first | (refine wpList_alloc_ndd 12 rfl rfl rfl ?_; intro b w2 hB gB oB; have HB := hide hB; have OB := hide oB; clear hB oB) | (refine wpList_store_nd rfl _ _ rfl b x rfl rfl (unhide HB) ?_; intro w3 n3 o3))
  have hpb : p < b := by omega
  have hb0 : w.heap.size ≤ b := by omega
  have A3 := ((unhide HH).2.1.quiet (unhide OB)).loc A hb0 o3
  have O3 := hide (((unhide HH).2.2.q0 (unhide OB)).qn o3 hb0)
  have P3 := hide (((unhide P1).keep (unhide OB) (fun h => h)).keep o3 (fun e => by omega))
  have AA := hide A3
  have N3 := hide n3
  clear n3 o3 A3 HB OB gB P1
  have c0 := (unhide N3).kind.1
  have c1 := (unhide N3).num.1
  go_upto_region 6 with fail
  go_loop [14] (fun iv => ∃ i : Nat, iv = .int .i64 i ∧ i ≤ x.n ∧ ∀ j, j < i → hit k past (x.K j, x.V j) = false) (fun iv => 4 - (intOf iv).toNat)
  case atStart => exact ⟨0, rfl, Nat.zero_le _, fun j hj => by omega⟩
  case round =>
    obtain ⟨i, rfl, hi, hne⟩ := hrel
    have HN := hide hne
    clear hne
    have r := (unhide HH).1
    have r' : RepL x (itT t) := r
    have hrep : ∀ (j : Nat) (f : KV), (show List KV from itT t)[j]? = some f → f = (x.K j, x.V j) := fun j f hf => by
      have := r'.v j f hf
      rw [this.1, this.2]
    by_cases hs : i < x.n
    · have a1 : decide ((i : Int) < (x.n : Int)) = true := decide_eq_true (by omega)
      have a2 : (i : Int) < 4 := by omega
      have ck := ((unhide N3).key i (by omega)).1
      have cv := ((unhide N3).val i (by omega)).1
      obtain ⟨e, he⟩ : ∃ e : KV, (show List KV from itT t)[i]? = some e := get_ex (show i < (itT t).length by omega)
      have RR := hide (show hit k past (x.K i, x.V i) = true → seekL k past (entsL 0 (itT t)) = some (x.K i, x.V i) from fun hh => by
        have := seekL_at (k := k) (past := past) (l := show List KV from itT t) (i := i) (e := e) (fun j f hj hf => by rw [hrep j f hf]; exact unhide HN j hj) he (by rw [hrep i e he]; exact hh)
        rw [show entsL 0 (itT t) = (show List KV from itT t) from entsL_zero _, this, hrep i e he])
      have HN2 : Hid (hit k past (x.K i, x.V i) = false → ∀ j, j < i + 1 → hit k past (x.K j, x.V j) = false) := hide (fun hh j hj => by
          by_cases e : j = i
          · rw [e]; exact hh
          · exact unhide HN j (by omega))
      clear he r r' hrep e
      have q0 := (unhide P3).k
      have q1 := (unhide P3).v
      have hS := hide (show KvAt (((w3.setCell ⟨p, 0, none⟩ (.string (x.K i))).setCell ⟨p, 1, none⟩ (.string (x.V i)))).drew p (x.K i, x.V i) from (KvAt.set (f := (x.K i, x.V i)) (unhide P3)).drew)
      have oS := hide (show Only (fun k => k = p) w3 (((w3.setCell ⟨p, 0, none⟩ (.string (x.K i))).setCell ⟨p, 1, none⟩ (.string (x.V i)))).drew from (((Only.refl (fun k => k = p) w3).setCell (p := ⟨p, 0, none⟩) (fun _ => rfl) _).setCell (p := ⟨p, 1, none⟩) (fun _ => rfl) _).drew)
      have hpb2 : p ≠ b := by omega
      rcases lt_total (x.K i) k with hx | hx | hx
      · have f1 : Op.bytesLess (x.K i).toList k.toList = true := hx
        have f2 := seq_f (lt_ne hx)
        have g1 := hide (lt_asymm hx)
        have g2 := hide (lt_ne hx)
        clear hx q0 q1
        cases past
        all_goals
          go_wp2_with fail
          go_round
          case rel => exact ⟨i + 1, by go_num, by omega, unhide HN2 (by have h1 := unhide g1; have h2 := unhide g2; simp [hit, h1, h2])⟩
          case measure => simp [intOf]; omega
      · have f1 : Op.bytesLess (x.K i).toList k.toList = false := by rw [hx]; exact lt_irr k
        have f2 := seq_t hx
        have g1 : Hid (lt k (x.K i) = false) := hide (by rw [hx]; exact lt_irr k)
        have g2 := hide hx
        clear hx
        cases past
        · go_upto_region 9 with fail
          go_region
          all_goals
            generalize (((w3.setCell ⟨p, 0, none⟩ (.string (x.K i))).setCell ⟨p, 1, none⟩ (.string (x.V i)))).drew = w4 at *
            clear q0 q1
            go_wp2_with fail
            refine bodyPost_ret (res2_kv Tryz.results349 _ rfl (unhide hS)) rfl ?_
            refine ⟨?_, (unhide AA).loc A gP (unhide oS), (unhide O3).qn (unhide oS) gP⟩
            rw [unhide RR (by have h1 := unhide g1; have h2 := unhide g2; simp [hit, h2])]
            rfl
        · clear q0 q1
          go_wp2_with fail
          go_round
          case rel => exact ⟨i + 1, by go_num, by omega, unhide HN2 (by have h1 := unhide g1; simp [hit, h1])⟩
          case measure => simp [intOf]; omega
      · have f1 : Op.bytesLess (x.K i).toList k.toList = false := lt_asymm hx
        have f2 := seq_f (fun e => lt_ne hx e.symm)
        have g1 := hide hx
        clear hx
        go_upto_region 9 with fail
        go_region
        all_goals
          generalize (((w3.setCell ⟨p, 0, none⟩ (.string (x.K i))).setCell ⟨p, 1, none⟩ (.string (x.V i)))).drew = w4 at *
          clear q0 q1
          go_wp2_with fail
          refine bodyPost_ret (res2_kv Tryz.results349 _ rfl (unhide hS)) rfl ?_
          refine ⟨?_, (unhide AA).loc A gP (unhide oS), (unhide O3).qn (unhide oS) gP⟩
          rw [unhide RR (by have h1 := unhide g1; simp [hit, h1])]
          rfl
    · have a1 : decide ((i : Int) < (x.n : Int)) = false := decide_eq_false (by omega)
      have RR := hide (show seekL k past (entsL 0 (itT t)) = none from by
        rw [show entsL 0 (itT t) = (show List KV from itT t) from entsL_zero _]
        refine seekL_no (fun j f hf => ?_)
        have hj : j < (itT t).length := get_lt hf
        rw [hrep j f hf]
        exact unhide HN j (by omega))
      clear r r' hrep
      go_wp2_with (first | (refine wpList_store_kv rfl _ _ rfl p kvD rfl rfl (unhide P3) ?_; intro w4 n4 o4))
      refine bodyPost_ret (res2_kv Tryz.results349 _ rfl n4) rfl ?_
      refine ⟨?_, (unhide AA).loc A gP o4, (unhide O3).qn o4 gP⟩
      rw [unhide RR]
      rfl
end
end Go.Proofs.Qxb6500412aGreat
