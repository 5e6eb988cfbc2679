/-
  OWN WORK. THE GRAPH: SetBranch, DelBranch.
-/
import Derived.Test.Qxb6500417aGreatGBr2
namespace Go.Proofs.Qxb6500417aGreat
open Go.RowKit Go.PlainAid
set_option linter.unusedSimpArgs false
set_option linter.unusedVariables false

def sbA (A : GA) (nm : ByteArray) (s : Int) : GA := if sbE A nm s = 0 then { A with refs := withR A.refs nm s.toNat } else A
def dbA (A : GA) (nm : ByteArray) : GA := if dbE A nm = 0 then { A with refs := withoutR A.refs nm } else A
def shB (b : Nat → Br) (i n : Nat) : Nat → Br := fun k => if i < k ∧ k ≤ n then b (k - 1) else b k
theorem shB_start (b : Nat → Br) (n : Nat) : shB b n n = b := by
  funext k
  unfold shB
  rw [if_neg (by omega)]
theorem shB_step (b : Nat → Br) (i n : Nat) (hi : i + 1 ≤ n) : updT (shB b (i + 1) n) (i + 1) (b i) = shB b i n := by
  funext k
  unfold updT shB
  by_cases e : k = i + 1
  · rw [if_pos e, if_pos (by omega), e]; rfl
  · rw [if_neg e]
    by_cases h : i + 1 < k ∧ k ≤ n
    · rw [if_pos h, if_pos (by omega)]
    · rw [if_neg h, if_neg (by omega)]
theorem shB_end (b : Nat → Br) (p : Nat) (x : Br) (n : Nat) (hp : p ≤ n) : updT (shB b p n) p x = insB b p x n := by
  funext k
  unfold updT shB insB
  by_cases e : k = p
  · rw [if_pos e, if_neg (by omega), if_pos e]
  · rw [if_neg e]
    by_cases h : p < k ∧ k ≤ n
    · rw [if_pos h, if_neg (by omega), if_neg e, if_pos h.2]
    · rw [if_neg h]
      by_cases h2 : k < p
      · rw [if_pos h2]
      · rw [if_neg h2, if_neg e, if_neg (by omega)]
/-- The rows behind p have closed up, below i. -/
def clB (b : Nat → Br) (p i : Nat) : Nat → Br := fun k => if p ≤ k ∧ k < i then b (k + 1) else b k
theorem clB_start (b : Nat → Br) (p : Nat) : clB b p p = b := by
  funext k
  unfold clB
  rw [if_neg (by omega)]
theorem clB_step (b : Nat → Br) (p i : Nat) (hi : p ≤ i) : updT (clB b p i) i (b (i + 1)) = clB b p (i + 1) := by
  funext k
  unfold updT clB
  by_cases e : k = i
  · rw [if_pos e, if_pos (by omega), e]
  · rw [if_neg e]
    by_cases h : p ≤ k ∧ k < i
    · rw [if_pos h, if_pos (by omega)]
    · rw [if_neg h, if_neg (by omega)]
theorem clB_end (b : Nat → Br) (p n : Nat) (hp : p < n) (hz : ∀ k, n ≤ k → b k = Br.zero) : updT (clB b p (n - 1)) (n - 1) Br.zero = delB b p n := by
  funext k
  unfold updT clB delB
  by_cases e : k = n - 1
  · rw [if_pos e, if_neg (by omega), if_neg (by omega)]
  · rw [if_neg e]
    by_cases h : k < p
    · rw [if_neg (by omega), if_pos h]
    · rw [if_neg h]
      by_cases h2 : k + 1 < n
      · rw [if_pos (by omega), if_pos h2]
      · rw [if_neg (by omega), if_neg h2, hz k (by omega)]
section
variable {w w' : World} {g t s d : Nat} {D B : Nat → Nat} {recs : List Rec} {J : Nat → Sl} {rt : Nat} {F : Nat → Prop} {T : Gt} {S : GA}
theorem refs_len (J : Nat → Sl) (T : Gt) : (absG J T).refs.length = T.nb := by simp [absG, bs_len]
set_option maxRecDepth 100000 in
set_option maxHeartbeats 4000000 in
theorem gsetBr_any (h : GR w g t s d D B recs J rt F T S) (nm : ByteArray) (sq : Int) :
    Calls Tryz.prog 98 #[.pointer (some ⟨g, 0, none⟩), .string nm, .int .i64 sq] w fun e w' => e = .returned (.int .i64 (sbE (absG J T) nm sq : Nat)) ∧ TabP w w' g t s d D B recs J rt F S (sbA (absG J T) nm sq) := by
  have hgi := h.gi
  have C1 := goodName_any nm w
  have C2 := gfind_any h.gh hgi.ord (fun k hk => by have := (hgi.tab.cs k hk).2; have := hgi.nx; omega) sq
  have hS := hgi.has sq
  have h4 := hgi.ref.b4
  have hgl := h.gh.lt
  cases hg : goodN nm with
  | false =>
    have hE : sbE (absG J T) nm sq = 14 := by unfold sbE; rw [if_pos hg]
    have hA : sbA (absG J T) nm sq = absG J T := by unfold sbA; rw [hE, if_neg (by decide)]
    rw [hE, hA]
    rw [hg] at C1
    have C1 := hide C1
    have RR := hide (TabP.same h (Only.refl _ w))
    clear C2 hS hE hA hgi h
    go_enter Tryz.func98, Tryz.ntmps98
    go_wp2_with fail
    refine (unhide C1).mono ?_
    rintro e w1 ⟨rfl, rfl⟩
    clear C1
    go_wp2_with fail
    go_ret
    exact ⟨rfl, unhide RR⟩
  | true =>
    rw [hg] at C1
    have C1 := hide C1
    obtain ⟨fs, hfs⟩ : ∃ fs, fG T sq = fs := ⟨_, rfl⟩
    rw [hfs] at hS C2
    clear hfs
    have C2 := hide C2
    rcases hS with ⟨rfl, hno⟩ | ⟨hC, hsq, hyes⟩
    · have hE : sbE (absG J T) nm sq = 17 := by unfold sbE; rw [if_neg (by rw [hg]; simp), if_pos hno]
      have hA : sbA (absG J T) nm sq = absG J T := by unfold sbA; rw [hE, if_neg (by decide)]
      rw [hE, hA]
      have H0 := hide h
      clear hE hA hgi h hno hg
      go_enter Tryz.func98, Tryz.ntmps98
      go_wp2_with fail
      refine (unhide C1).mono ?_
      rintro e w1 ⟨rfl, rfl⟩
      clear C1
      go_wp2_with fail
      refine (unhide C2).mono ?_
      rintro e w2 ⟨rfl, hO2⟩
      have RR := hide (TabP.same (unhide H0) hO2)
      clear C2 hO2
      go_wp2_with fail
      go_ret
      exact ⟨rfl, unhide RR⟩
    · have hf0 : ((fs : Int) == 0) = false := ne_intO (by have := hC.1.1; omega)
      have hf49 : fs < 49 := by have := hC.1.2; omega
      have hsN : sq.toNat = (T.c fs).seq := by omega
      have H0 := hide h
      have Hg := hide hg
      have Hyes := hide hyes
      have HC := hide hC
      have HsN := hide hsN
      have HgI := hide hgi
      clear hgi h hg hyes hC hsq hsN
      go_enter Tryz.func98, Tryz.ntmps98
      go_wp2_with fail
      refine (unhide C1).mono ?_
      rintro e w1 ⟨rfl, rfl⟩
      clear C1
      go_wp2_with fail
      refine (unhide C2).mono ?_
      rintro e w2 ⟨rfl, hO2⟩
      have hG2 := (unhide H0).gh.quiet hO2
      have C3 := hide (gwhere_any hG2 h4 nm)
      have HO2 := hide hO2
      clear C2 hO2 hG2
      go_wp2_with fail
      refine (unhide C3).mono ?_
      rintro e w3 ⟨p, hW, rfl, hO3⟩
      have hO3' := (unhide HO2).trans hO3 (fun _ _ h => h)
      have hG3 := (unhide H0).gh.quiet hO3'
      have hhit := (unhide HgI).hit hW
      have hple := hW.le
      have HG3 := hide hG3
      have HO3 := hide hO3'
      cases hh : hitP T nm p with
      | true =>
        have hp4 : p < T.nb := by
          unfold hitP at hh
          simp only [Bool.and_eq_true, decide_eq_true_eq] at hh
          exact hh.1
        have hE : sbE (absG J T) nm sq = 0 := by
          unfold sbE
          rw [if_neg (by rw [unhide Hg]; simp), if_neg (by rw [unhide Hyes]; simp), if_neg (by rw [← hhit, hh]; simp)]
        have hA : sbA (absG J T) nm sq = { absG J T with refs := withR (absG J T).refs nm (T.c fs).seq } := by
          unfold sbA; rw [hE, if_pos rfl, unhide HsN]
        obtain ⟨gA, gB⟩ := (unhide HgI).moveB hW hh (unhide HC)
        have hnm : (T.b p).name = nm := by
          unfold hitP at hh
          simp only [Bool.and_eq_true, decide_eq_true_eq] at hh
          exact hh.2
        have hG4 := hG3.putBi p (by omega) fs
        have z := hG3.bri p (by omega)
        have RR : Hid (TabP w (w3.setCell ⟨g, 344 + p * 2 + 1, none⟩ (.int .i64 (fs : Int))) g t s d D B recs J rt F S (sbA (absG J T) nm sq)) := hide (by
          rw [hA, ← gB]
          refine TabP.of (unhide H0) ((hO3'.mono (T := fun y => y = g) (fun _ _ h => h.elim)).setCell (fun _ => rfl) _) ?_ gA rfl
          unfold Gt.setB at hG4
          rw [hnm] at hG4
          exact hG4)
        have HE := hide hE
        have a1 : (p : Int) < 4 := by omega
        clear C3 hO3 hO3' hG3 hhit hE hA gA gB hG4 hW hnm
        go_wp2_with fail
        go_ret
        rw [unhide HE]
        exact ⟨rfl, unhide RR⟩
      | false =>
        have cn := hG3.nb_.1
        by_cases hn4 : 4 ≤ T.nb
        · have hE : sbE (absG J T) nm sq = 8 := by
            unfold sbE
            rw [if_neg (by rw [unhide Hg]; simp), if_neg (by rw [unhide Hyes]; simp), if_pos ⟨by rw [← hhit, hh], by rw [refs_len]; exact hn4⟩]
          have hA : sbA (absG J T) nm sq = absG J T := by unfold sbA; rw [hE, if_neg (by decide)]
          have RR : Hid (TabP w w3 g t s d D B recs J rt F S (sbA (absG J T) nm sq)) := hide (by rw [hA]; exact TabP.same (unhide H0) hO3')
          have HE := hide hE
          have a1 : decide ((4 : Int) ≤ (T.nb : Int)) = true := decide_eq_true (by omega)
          clear C3 hO3 hO3' hG3 hhit hE hA hW
          go_wp2_with fail
          go_ret
          rw [unhide HE]
          exact ⟨rfl, unhide RR⟩
        · have hE : sbE (absG J T) nm sq = 0 := by
            unfold sbE
            rw [if_neg (by rw [unhide Hg]; simp), if_neg (by rw [unhide Hyes]; simp), if_neg (by rw [refs_len]; omega)]
          have hA : sbA (absG J T) nm sq = { absG J T with refs := withR (absG J T).refs nm (T.c fs).seq } := by
            unfold sbA; rw [hE, if_pos rfl, unhide HsN]
          have HE := hide hE
          have HA := hide hA
          have HW := hide hW
          have Hh := hide hh
          have a1 : decide ((4 : Int) ≤ (T.nb : Int)) = false := decide_eq_false (by omega)
          clear C3 hO3 hO3' hG3 hhit hE hA hW
          go_wp2_with fail
          go_loopw [10] (fun jv wr => ∃ j : Nat, jv = .int .i64 j ∧ p ≤ j ∧ j ≤ T.nb ∧ GH wr g t { T with b := shB T.b j T.nb } ∧ Only (fun y => y = g) w wr) (fun jv _ => (intOf jv).toNat)
          case atStart => exact ⟨T.nb, rfl, hple, by omega, by rw [shB_start]; exact unhide HG3, (unhide HO3).mono (fun _ _ h => h.elim)⟩
          case round =>
            obtain ⟨j, rfl, hpj, hjn, hG, hO⟩ := hrel
            by_cases hgt : p < j
            · obtain ⟨i, rfl⟩ : ∃ i, j = i + 1 := ⟨j - 1, by omega⟩
              have b1 : decide ((p : Int) < ((i + 1 : Nat) : Int)) = true := decide_eq_true (by omega)
              have b1' : decide ((p : Int) < (i : Int) + 1) = true := decide_eq_true (by omega)
              have hsi : shB T.b (i + 1) T.nb i = T.b i := by unfold shB; rw [if_neg (by omega)]
              have y0 : wr.cell? ⟨g, 344 + i * 2, none⟩ = some (.string (T.b i).name) := by
                have := (hG.brn i (by omega)).1
                rw [← hsi]; exact this
              have y1 : wr.cell? ⟨g, 344 + i * 2 + 1, none⟩ = some (.int .i64 ((T.b i).id : Int)) := by
                have := (hG.bri i (by omega)).1
                rw [← hsi]; exact this
              have z0 := hG.brn (i + 1) (by omega)
              have z1 := hG.bri (i + 1) (by omega)
              have hG4 := (hG.putB (i + 1) (by omega) (T.b i)).quiet (Only.refl (fun _ => False) _).drew
              have HG4 : Hid (GH _ g t { T with b := shB T.b i T.nb }) := hide (by
                have := hG4
                unfold Gt.setB at this
                simp only at this
                rw [shB_step _ _ _ hjn] at this
                exact this)
              have HO4 := hide ((hO.setCell (p := ⟨g, 344 + (i + 1) * 2, none⟩) (fun _ => rfl) (.string (T.b i).name)).setCell (p := ⟨g, 344 + (i + 1) * 2 + 1, none⟩) (fun _ => rfl) (.int .i64 ((T.b i).id : Int))).drew
              have a3 : (i : Int) < 4 := by omega
              have a4 : (i : Int) + 1 < 4 := by omega
              clear hG hO hG4
              generalize (T.b i).name = bn at *
              generalize (T.b i).id = bi at *
              go_upto_region 15 with fail
              go_region
              all_goals
                go_wp2_with fail
                go_roundw
                case rel => exact ⟨i, by go_num, by omega, by omega, unhide HG4, unhide HO4⟩
                case measure => simp [intOf]
            · have e1 : j = p := by omega
              subst e1
              have b1 : decide ((j : Int) < (j : Int)) = false := by simp
              have z0 := hG.brn j (by omega)
              have z1 := hG.bri j (by omega)
              have zn := hG.nb_
              obtain ⟨gA, gB⟩ := (unhide HgI).addB (unhide HW) (unhide Hh) (unhide HC) (unhide Hg) (by omega)
              have hG5 := (hG.putB j (by omega) ⟨nm, fs⟩).putNb (T.nb + 1)
              have RR : Hid (TabP w (((wr.setCell ⟨g, 344 + j * 2, none⟩ (.string nm)).setCell ⟨g, 344 + j * 2 + 1, none⟩ (.int .i64 (fs : Int))).setCell ⟨g, 352, none⟩ (.int .i64 ((T.nb + 1 : Nat) : Int))) g t s d D B recs J rt F S (sbA (absG J T) nm sq)) := hide (by
                rw [unhide HA, ← gB]
                refine TabP.of (unhide H0) (((hO.setCell (fun _ => rfl) _).setCell (fun _ => rfl) _).setCell (fun _ => rfl) _) ?_ gA rfl
                unfold Gt.setB at hG5
                simp only at hG5
                rw [shB_end _ _ _ _ hjn] at hG5
                exact hG5)
              have a3 : (j : Int) < 4 := by omega
              clear hG hO gA gB hG5
              go_wp2_with fail
              go_ret
              rw [unhide HE]
              exact ⟨rfl, unhide RR⟩
end
end Go.Proofs.Qxb6500417aGreat
