/-
  OWN WORK. THE GRAPH: ancestors, plain; MergeBase, Log.
-/
import Derived.Test.Qxb6500417aGreatGUp
namespace Go.Proofs.Qxb6500417aGreat
open Go.RowKit Go.PlainAid
set_option linter.unusedSimpArgs false
set_option linter.unusedVariables false

/-- Node j is a parent of node i. -/
def inPar (nodes : List Nd) (i j : Nat) : Bool := match nodes[i]?, nodes[j]? with
  | some a, some b => a.par.contains b.seq
  | _, _ => false
def seenS (nodes : List Nd) (s : Nat → Bool) (i : Nat) : Nat → Bool := if s i = true then (fun j => s j || inPar nodes i j) else s
/-- The ancestors of what s marks: one pass from node i - 1 down. -/
def reachN (nodes : List Nd) : Nat → (Nat → Bool) → (Nat → Bool)
  | 0, s => s
  | i + 1, s => reachN nodes i (seenS nodes s i)
def root1 (nodes : List Nd) (q : Int) : Nat → Bool := fun j => match nodes[j]? with
  | some b => decide ((b.seq : Int) = q)
  | none => false
def seqAt (nodes : List Nd) (j : Nat) : Nat := match nodes[j]? with
  | some b => b.seq
  | none => 0
/-- The Seqs of the marked nodes below i, descending. -/
def logD (nodes : List Nd) (s : Nat → Bool) : Nat → List Int
  | 0 => []
  | i + 1 => (if s i = true then [(seqAt nodes i : Int)] else []) ++ logD nodes s i
def baseD (nodes : List Nd) (s : Nat → Bool) : Nat → Nat
  | 0 => 0
  | i + 1 => if s i = true then seqAt nodes i else baseD nodes s i
def reachA (A : GA) (q : Int) : Nat → Bool := reachN A.nodes A.nodes.length (root1 A.nodes q)
def logA (A : GA) (q : Int) : List Int := logD A.nodes (reachA A q) A.nodes.length
def baseA (A : GA) (a b : Int) : Nat := baseD A.nodes (fun j => reachA A a j && reachA A b j) A.nodes.length
/-- The set x marks what s marks. -/
def Corr (T : Gt) (x : Nat) (s : Nat → Bool) : Prop := ∀ j, j < T.n → x.testBit (T.o j) = s j
theorem orPars_bit {r : Cr} (hn : r.np ≤ 2) : ∀ k, k ≤ r.np → ∀ x id, (orPars r k x).testBit id = (x.testBit id || (r.pars.take k).contains id)
  | 0, _, x, id => by simp [orPars]
  | k + 1, hk, x, id => by
    unfold orPars
    rw [orW_bit, orPars_bit hn k (by omega) x id, pars_take hn (by omega)]
    by_cases e : id = parN r k
    · rw [if_pos e, e]; simp
    · rw [if_neg e]
      have h1 : ((r.pars.take k) ++ [parN r k]).contains id = (r.pars.take k).contains id := by
        rw [Bool.eq_iff_iff]
        simp only [List.contains_iff_mem, List.mem_append, List.mem_singleton]
        exact ⟨fun h => h.resolve_right e, .inl⟩
      rw [h1]
section
variable {w : World} {g t s d : Nat} {D B : Nat → Nat} {recs : List Rec} {J : Nat → Sl} {rt : Nat} {F : Nat → Prop} {T : Gt} {S : GA}
theorem GI.inPar (h : GI J rt T) {i j : Nat} (hi : i < T.n) (hj : j < T.n) : Go.Proofs.Qxb6500417aGreat.inPar (absG J T).nodes i j = (T.c (T.o i)).pars.contains (T.o j) := by
  unfold Go.Proofs.Qxb6500417aGreat.inPar
  rw [nodes_at J T hi, nodes_at J T hj]
  show ((T.c (T.o i)).pars.map (fun p => (T.c p).seq)).contains (T.c (T.o j)).seq = _
  rw [Bool.eq_iff_iff]
  simp only [List.contains_iff_mem, List.mem_map]
  constructor
  · rintro ⟨p, hp, he⟩
    have := h.tab.ci p (T.o j) (h.tab.cp _ (h.ord.oin i hi) p hp).1 (h.ord.oin j hj) he
    rw [← this]; exact hp
  · intro hp
    exact ⟨T.o j, hp, rfl⟩
theorem GI.corr (h : GI J rt T) : ∀ i x s, i ≤ T.n → Corr T x s → Corr T (upN T i x) (reachN (absG J T).nodes i s)
  | 0, x, s, _, hc => hc
  | i + 1, x, s, hi, hc => by
    refine h.corr i _ _ (by omega) (fun j hj => ?_)
    unfold stepU seenS
    rw [← hc i (by omega)]
    by_cases hb : x.testBit (T.o i) = true
    · rw [if_pos hb, if_pos hb]
      have hnp := (h.tab.cw _ (h.ord.oin i (by omega))).np
      rw [orPars_bit hnp _ (Nat.le_refl _), List.take_of_length_le (by rw [Cr.pars_len _ hnp]; exact Nat.le_refl _), hc j hj, h.inPar (by omega) hj]
    · rw [if_neg hb, if_neg hb]
      exact hc j hj
theorem GI.root (h : GI J rt T) {q : Int} (hC : IsC T.c (fG T q)) (hq : ((T.c (fG T q)).seq : Int) = q) : Corr T (2 ^ fG T q) (root1 (absG J T).nodes q) := fun j hj => by
  unfold root1
  rw [nodes_at J T hj]
  show (2 ^ fG T q).testBit (T.o j) = decide (((T.c (T.o j)).seq : Int) = q)
  rw [Nat.testBit_two_pow]
  by_cases e : fG T q = T.o j
  · rw [decide_eq_true e, ← e, decide_eq_true hq]
  · rw [decide_eq_false e]
    symm
    apply decide_eq_false
    intro he
    exact e (h.tab.ci _ _ hC (h.ord.oin j hj) (by omega))
theorem GI.reach (h : GI J rt T) {q : Int} (hC : IsC T.c (fG T q)) (hq : ((T.c (fG T q)).seq : Int) = q) : Corr T (upN T T.n (2 ^ fG T q)) (reachA (absG J T) q) := by
  unfold reachA
  rw [abs_len]
  exact h.corr T.n _ _ (Nat.le_refl _) (h.root hC hq)
theorem seqAt_abs (J : Nat → Sl) (T : Gt) {j : Nat} (hj : j < T.n) : Go.Proofs.Qxb6500417aGreat.seqAt (absG J T).nodes j = (T.c (T.o j)).seq := by
  unfold Go.Proofs.Qxb6500417aGreat.seqAt
  rw [nodes_at J T hj]
  rfl
/-- What MergeBase answers. -/
def baseV (A : GA) (p q : Int) : Nat × Nat := if hasN A p = true ∧ hasN A q = true then (baseA A p q, 0) else (0, 17)
set_option maxRecDepth 100000 in
set_option maxHeartbeats 4000000 in
theorem gbase_any (h : GR w g t s d D B recs J rt F T S) (p q : Int) :
    Calls Tryz.prog 109 #[.pointer (some ⟨g, 0, none⟩), .int .i64 p, .int .i64 q] w fun e w' => e = .returned (.tuple #[.int .i64 ((baseV (absG J T) p q).1 : Nat), .int .i64 ((baseV (absG J T) p q).2 : Nat)]) ∧ Only (fun _ => False) w w' := by
  have hgi := h.gi
  have hsqs : ∀ k, IsC T.c k → (T.c k).seq < 4611686018427387904 := fun k hk => by have := (hgi.tab.cs k hk).2; have := hgi.nx; omega
  have C1 := gfind_any h.gh hgi.ord hsqs p
  have hP := hgi.has p
  have hQ := hgi.has q
  have H0 := hide h
  have HI := hide hgi
  have Hsq := hide hsqs
  obtain ⟨fp, hfp⟩ : ∃ fp, fG T p = fp := ⟨_, rfl⟩
  obtain ⟨fq, hfq⟩ : ∃ fq, fG T q = fq := ⟨_, rfl⟩
  have HRp := hide (fun h1 h2 => hgi.reach (q := p) h1 h2)
  have HRq := hide (fun h1 h2 => hgi.reach (q := q) h1 h2)
  rw [hfp] at C1 hP HRp
  rw [hfq] at hQ HRq
  have C1 := hide C1
  have Hfq := hide hfq
  clear h hgi hsqs hfp hfq
  rcases hP with ⟨rfl, hno⟩ | ⟨hCp, hsp, hyp⟩
  · have hV : baseV (absG J T) p q = (0, 17) := by unfold baseV; rw [if_neg (by rw [hno]; simp)]
    rw [hV]
    clear hV
    go_enter Tryz.func109, Tryz.ntmps109
    go_wp2_with fail
    refine (unhide C1).mono ?_
    rintro e w1 ⟨rfl, hO1⟩
    have HO1 := hide hO1
    clear C1 hO1
    go_wp2_with fail
    go_ret2
    exact ⟨rfl, unhide HO1⟩
  · have b1 : ((fp : Int) == 0) = false := ne_intO (by have := hCp.1.1; omega)
    have Hyp := hide hyp
    have Rp := hide (unhide HRp hCp hsp)
    have hp49 : fp < 49 := by have := hCp.1.2; omega
    clear hCp hsp hyp HRp
    rcases hQ with ⟨rfl, hno⟩ | ⟨hCq, hsq, hyq⟩
    · have hV : baseV (absG J T) p q = (0, 17) := by unfold baseV; rw [if_neg (by rw [hno]; simp)]
      rw [hV]
      clear hV
      go_enter Tryz.func109, Tryz.ntmps109
      go_wp2_with fail
      refine (unhide C1).mono ?_
      rintro e w1 ⟨rfl, hO1⟩
      have C2 := gfind_any ((unhide H0).gh.quiet hO1) (unhide HI).ord (unhide Hsq) q
      rw [unhide Hfq] at C2
      have C2 := hide C2
      have HO1 := hide hO1
      clear C1 hO1
      go_wp2_with fail
      refine (unhide C2).mono ?_
      rintro e w2 ⟨rfl, hO2⟩
      have HO2 := hide ((unhide HO1).trans hO2 (fun _ _ h => h))
      clear C2 hO2
      go_wp2_with fail
      go_ret2
      exact ⟨rfl, unhide HO2⟩
    · have b2 : ((fq : Int) == 0) = false := ne_intO (by have := hCq.1.1; omega)
      have hV : baseV (absG J T) p q = (baseA (absG J T) p q, 0) := by unfold baseV; rw [if_pos ⟨unhide Hyp, hyq⟩]
      rw [hV]
      clear hV
      have Rq := hide (unhide HRq hCq hsq)
      have hq49 : fq < 49 := by have := hCq.1.2; omega
      clear hCq hsq hyq HRq
      go_enter Tryz.func109, Tryz.ntmps109
      go_wp2_with fail
      refine (unhide C1).mono ?_
      rintro e w1 ⟨rfl, hO1⟩
      have C2 := gfind_any ((unhide H0).gh.quiet hO1) (unhide HI).ord (unhide Hsq) q
      rw [unhide Hfq] at C2
      have C2 := hide C2
      have HO1 := hide hO1
      clear C1 hO1
      go_wp2_with fail
      refine (unhide C2).mono ?_
      rintro e w2 ⟨rfl, hO2⟩
      have hO2' := (unhide HO1).trans hO2 (fun _ _ h => h)
      have hG2 := (unhide H0).gh.quiet hO2'
      obtain ⟨bp, hbp⟩ : ∃ b, (2 : Nat) ^ fp = b := ⟨_, rfl⟩
      obtain ⟨bq, hbq⟩ : ∃ b, (2 : Nat) ^ fq = b := ⟨_, rfl⟩
      have hbpl : bp < 18446744073709551616 := by rw [← hbp]; exact pow64 _ (by omega)
      have hbql : bq < 18446744073709551616 := by rw [← hbq]; exact pow64 _ (by omega)
      have C3 := hide (gbit_any fp (by omega) bp hbp.symm w2)
      have C4 := hide (gbit_any fq (by omega) bq hbq.symm w2)
      have C5 := gup_any hG2 (unhide HI) bp hbpl
      have C6 := gup_any hG2 (unhide HI) bq hbql
      have hxl := (unhide HI).upN_lt T.n bp (Nat.le_refl _) hbpl
      have hyl := (unhide HI).upN_lt T.n bq (Nat.le_refl _) hbql
      have RRp := unhide Rp
      have RRq := unhide Rq
      rw [hbp] at RRp
      rw [hbq] at RRq
      obtain ⟨X, hX⟩ : ∃ X, upN T T.n bp = X := ⟨_, rfl⟩
      obtain ⟨Y, hY⟩ : ∃ Y, upN T T.n bq = Y := ⟨_, rfl⟩
      rw [hX] at C5 hxl RRp
      rw [hY] at C6 hyl RRq
      have e2 := bits_and_u64_nat X Y hxl hyl
      obtain ⟨Z, hZ⟩ : ∃ Z, X &&& Y = Z := ⟨_, rfl⟩
      rw [hZ] at e2
      have hzl : Z < 18446744073709551616 := by
        rw [← hZ]
        have := Nat.and_lt_two_pow (n := 64) X (y := Y) (by omega)
        omega
      have hcZ : Corr T Z (fun j => reachA (absG J T) p j && reachA (absG J T) q j) := fun j hj => by
        rw [← hZ, Nat.testBit_and, RRp j hj, RRq j hj]
      have hbase : baseA (absG J T) p q = baseD (absG J T).nodes (fun j => reachA (absG J T) p j && reachA (absG J T) q j) T.n := by unfold baseA; rw [abs_len]
      obtain ⟨sn, hsn⟩ : ∃ sn, sn = (fun j => reachA (absG J T) p j && reachA (absG J T) q j) := ⟨_, rfl⟩
      rw [← hsn] at hcZ hbase
      have HcZ := hide hcZ
      have Hba := hide hbase
      have C5 := hide C5
      have C6 := hide C6
      have HO2 := hide hO2'
      have HG2 := hide hG2
      have cn := hG2.n_.1
      have hn := (unhide HI).ord.n40
      clear C2 hO2 hO2' hG2 hbp hbq hX hY hZ RRp RRq hcZ hbase Rp Rq hsn
      go_wp2_with fail
      refine (unhide C3).mono ?_
      rintro e w3 ⟨rfl, rfl⟩
      clear C3
      go_wp2_with fail
      refine (unhide C4).mono ?_
      rintro e w3 ⟨rfl, rfl⟩
      clear C4
      go_wp2_with fail
      refine (unhide C5).mono ?_
      rintro e w3 ⟨rfl, rfl⟩
      clear C5
      go_wp2_with fail
      refine (unhide C6).mono ?_
      rintro e w3 ⟨rfl, rfl⟩
      clear C6
      go_wp2_with fail
      go_loopw [15] (fun iv wr => ∃ i : Nat, iv = .int .i64 ((i : Int) - 1) ∧ i ≤ T.n ∧ baseD (absG J T).nodes sn i = baseA (absG J T) p q ∧ Only (fun _ => False) w2 wr) (fun iv _ => (intOf iv + 1).toNat)
      case atStart => exact ⟨T.n, rfl, Nat.le_refl _, (unhide Hba).symm, Only.refl _ _⟩
      case round =>
        clear Hba
        obtain ⟨k, rfl, hk, hr, hO⟩ := hrel
        have hGr := (unhide HG2).quiet hO
        by_cases h0 : k = 0
        · subst h0
          have a1 : decide ((0 : Int) ≤ ((0 : Nat) : Int) - 1) = false := by simp
          have hr' : 0 = baseA (absG J T) p q := hr
          have Hr := hide hr'
          have HOO := hide ((unhide HO2).trans hO (fun _ _ h => h))
          clear hr hr' hO hGr
          go_wp2_with fail
          go_ret2
          exact ⟨by rw [← unhide Hr]; rfl, unhide HOO⟩
        · obtain ⟨i, rfl⟩ : ∃ i, k = i + 1 := ⟨k - 1, by omega⟩
          have e1 : (((i + 1 : Nat) : Int) - 1) = (i : Int) := by omega
          rw [e1]
          have a1 : decide ((0 : Int) ≤ (i : Int)) = true := by simp
          have a2 : (i : Int) < 48 := by omega
          have hC := (unhide HI).ord.oin i (by omega)
          have hcl : T.o i < 49 := by have := hC.1.2; omega
          have zo := (hGr.ord i (by omega)).1
          have zs : wr.cell? ⟨g, 1 + T.o i * 6 + 1, none⟩ = some (.int .i64 ((T.c (T.o i)).seq : Int)) := (hGr.com (T.o i) 1 hcl (by omega)).1
          have hcor := unhide HcZ i (by omega)
          obtain ⟨b, hb⟩ : ∃ b, (2 : Nat) ^ T.o i = b := ⟨_, rfl⟩
          have C7 := hide (gbit_any (T.o i) (by omega) b hb.symm wr)
          have hbl : b < 18446744073709551616 := by rw [← hb]; exact pow64 _ (by omega)
          obtain ⟨z, hz⟩ : ∃ z, Z &&& b = z := ⟨_, rfl⟩
          have e3 := bits_and_u64_nat Z b hzl hbl
          rw [hz] at e3
          have hap := and_pow Z (T.o i)
          rw [hb, hz, hcor] at hap
          have a3 : (T.o i : Int) < 49 := by omega
          have hba : baseD (absG J T).nodes sn (i + 1) = if sn i = true then (T.c (T.o i)).seq else baseD (absG J T).nodes sn i := by
            show (if sn i = true then Go.Proofs.Qxb6500417aGreat.seqAt (absG J T).nodes i else baseD (absG J T).nodes sn i) = _
            rw [seqAt_abs J T (by omega)]
          rw [hba] at hr
          have HO := hide hO
          clear hO hGr hC hb hz hcor hba e1
          cases hsi : sn i with
          | true =>
            rw [hsi] at hap
            rw [hsi, if_pos rfl] at hr
            have hz0 : ((z : Int) == 0) = false := by
              have : ((z : Int) != 0) = true := hap
              simpa using this
            have HOO := hide ((unhide HO2).trans (unhide HO) (fun _ _ h => h))
            have Hr := hide hr
            clear hr hsi
            generalize (T.c (T.o i)).seq = sqi at *
            generalize T.o i = oi at *
            go_wp2_with fail
            refine (unhide C7).mono ?_
            rintro e w3 ⟨rfl, rfl⟩
            clear C7
            go_wp2_with fail
            go_ret2
            exact ⟨by rw [← unhide Hr]; rfl, unhide HOO⟩
          | false =>
            rw [hsi] at hap
            rw [hsi, if_neg (by simp)] at hr
            have hz0 : z = 0 := by
              have : ((z : Int) != 0) = false := hap
              simp at this
              omega
            subst hz0
            have e3' : bits BinOp.and IntKind.u64 (Z : Int) (b : Int) = 0 := e3
            have Hr := hide hr
            clear hr hsi e3 hap
            generalize T.o i = oi at *
            go_wp2_with fail
            refine (unhide C7).mono ?_
            rintro e w3 ⟨rfl, rfl⟩
            clear C7
            go_wp2_with fail
            go_roundw
            case rel => exact ⟨i, by go_num, by omega, unhide Hr, unhide HO⟩
            case measure => simp [intOf]
end
end Go.Proofs.Qxb6500417aGreat
