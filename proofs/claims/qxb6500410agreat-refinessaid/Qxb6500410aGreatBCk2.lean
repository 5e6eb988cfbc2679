/-
  OWN WORK. THE B-TREE: Check.
-/
import Derived.Test.Qxb6500410aGreatBCk1
import Derived.Test.Qxb6500410aGreatZLook
import Derived.Deep.RegionHeld3
import Derived.Deep.DeepCutAuto
import Derived.Deep.QuietTactic
import Derived.BigQuiet
namespace Go.Proofs.Qxb6500410aGreat
open Go.RowKit Go.PlainAid
set_option linter.unusedSimpArgs false
set_option linter.unusedVariables false

/-- The first i trees. -/
def up8 {α : Type} (f : Option Root → List α) (F : Fo) (i : Nat) : List α := (List.range i).flatMap (fun j => f (F j))
theorem up8_succ {α : Type} (f : Option Root → List α) (F : Fo) (i : Nat) : up8 f F (i + 1) = up8 f F i ++ f (F i) := by
  unfold up8
  rw [List.range_succ, List.flatMap_append]
  simp
theorem up8_8 {α : Type} (f : Option Root → List α) (F : Fo) : up8 f F 8 = all8 f F := rfl
theorem up8_mem {α : Type} {f : Option Root → List α} {F : Fo} {i : Nat} {a : α} : a ∈ up8 f F i ↔ ∃ j, j < i ∧ a ∈ f (F j) := by
  unfold up8
  simp [List.mem_flatMap]
theorem up8_all {α : Type} (f : Option Root → List α) (F : Fo) {i : Nat} (hi : i < 8) : ∃ B, all8 f F = up8 f F i ++ (f (F i) ++ B) := by
  refine ⟨((List.range (7 - i)).map (fun j => i + 1 + j)).flatMap (fun j => f (F j)), ?_⟩
  unfold all8 up8
  have e : List.range 8 = List.range i ++ i :: (List.range (7 - i)).map (fun j => i + 1 + j) := by
    rw [show (8 : Nat) = i + (7 - i + 1) by omega, List.range_add, List.range_succ_eq_map]
    simp [Function.comp_def]
    intro a ha
    omega
  rw [e, List.flatMap_append, List.flatMap_cons]
def sn1 : Nat → Bool := see1 (fun _ => false) 1
section
variable {N : Nat → Option ByteArray} {F : Fo}
theorem FI.unseen (I : FI N F) {i : Nat} (hi : i < 8) {r : Root} (hr : F i = some r) : ∀ n ∈ pgs (r.h + 1) r.t, seeA sn1 (up8 pgsR F i) n = false := fun n hn => by
  have hnd := I.nd
  obtain ⟨B, hB⟩ := up8_all pgsR F hi
  rw [hB] at hnd
  have hm : n ∈ pgsR (F i) := by rw [hr]; exact hn
  obtain ⟨h1, h2⟩ := List.nodup_cons.mp hnd
  obtain ⟨h3, h4, h5⟩ := List.nodup_append.mp h2
  unfold seeA
  rw [if_neg (fun c => h5 n c n (List.mem_append.mpr (.inl hm)) rfl)]
  unfold sn1 see1
  rw [if_neg (fun e => h1 (by rw [← e]; exact List.mem_append.mpr (.inr (List.mem_append.mpr (.inl hm)))))]
theorem FI.entLe (I : FI N F) {i : Nat} (hi : i < 8) : (up8 entsR F i).length + (entsR (F i)).length ≤ 64 := by
  obtain ⟨B, hB⟩ := up8_all entsR F hi
  have := I.ct
  rw [hB] at this
  simp at this
  omega
/-- The pages reached are the pages in use. -/
theorem FI.reach (I : FI N F) (n : Nat) : seeA sn1 (all8 pgsR F) n = (N n).isSome := by
  unfold seeA sn1 see1
  by_cases h1 : n ∈ all8 pgsR F
  · rw [if_pos h1]
    obtain ⟨i, hi, hm⟩ := all8_in.mp h1
    cases hr : F i with
    | none => rw [hr] at hm; simp [pgsR] at hm
    | some r =>
      rw [hr] at hm
      obtain ⟨b, hb⟩ := (I.gd i r hi hr).st.some n hm
      rw [hb]; rfl
  · rw [if_neg h1]
    by_cases h2 : n = 1
    · rw [if_pos h2]
      obtain ⟨d, hd, _⟩ := I.dir
      rw [h2, hd]; rfl
    · rw [if_neg h2]
      cases hn : N n with
      | none => rfl
      | some b =>
        rcases I.us n b hn with c | c
        · exact absurd c h2
        · exact absurd c h1
end
section
variable {q : Gnd} {w : World} {op : Bool} {view : List ByteArray} {F : Fo}
theorem FA.new (A : FA q w op view) {k : Nat} (hk : w.heap.size ≤ k) : Off q k := ⟨fun h => by have := A.pg.inF k h; omega, fun h => A.nS hk (.inl h), fun e => A.nS hk (.inr e), fun e => by have := A.has.lt; omega⟩
theorem onlyTS {q : Gnd} {tb : Nat} {w w1 w2 : World} (h1 : Only q.S w w1) (h2 : Only (q.T tb) w1 w2) (ht : w.heap.size ≤ tb) : Only q.S w w2 := h1.trans h2 (fun k hk h => by
  rcases h with h | h
  · exact h
  · omega)
set_option maxRecDepth 100000 in
set_option maxHeartbeats 8000000 in
theorem check_any (A : FA q w op view) (I : FI (NV view) F) : Calls Tryz.prog 54 #[.pointer (some ⟨q.f, 0, none⟩)] w fun e w' => e = .returned (.bool true) ∧ FA q w' op view ∧ Only q.S w w' := by
  obtain ⟨d, hn, hd⟩ := I.dir
  have hs := hd.sz
  have c1 := A.ptr
  have C := hide (qget A hn)
  have HD := hide hd
  clear hn hd
  go_enter Tryz.func54, Tryz.ntmps54
  go_wp2_with fail
  refine (unhide C).mono ?_
  rintro e w1 ⟨rfl, A1, o1⟩
  have s1 := o1.size
  have T2 : TlAt (w1.alloc (.cells (tabV 74 (tlF (fun _ => false) 0 0)) 133)) w1.heap.size (fun _ => false) 0 0 := Has.new _ _ _
  have o2 : Only (fun _ => False) w1 (w1.alloc (.cells (tabV 74 (tlF (fun _ => false) 0 0)) 133)) := (Only.refl _ w1).alloc _
  have A2 := hide (A1.quiet o2)
  have hO := A1.new (Nat.le_refl _)
  have T2 := hide T2
  have O2 := hide (o1.q0 o2)
  clear A1 o1 o2 C c1
  go_upto_region 5 with fail
  change Code.wp _ _ _ _ (w1.alloc (.cells (tabV 74 (tlF (fun _ => false) 0 0)) 133))
  generalize w1.alloc (.cells (tabV 74 (tlF (fun _ => false) 0 0)) 133) = w2 at *
  generalize w1.heap.size = tb at *
  obtain ⟨t1, t1f⟩ := (unhide T2).cs (n := 1) (by omega)
  have T3 := (unhide T2).set (n := 1) (by omega)
  have o3 : Only (fun k => k = tb) w2 (w2.setCell ⟨tb, 1, none⟩ (.bool true)) := only1 _ _
  have A3 := hide ((unhide A2).off hO o3)
  have O3 := hide ((unhide O2).qn o3 (by omega))
  have T3 := hide (show TlAt (w2.setCell ⟨tb, 1, none⟩ (.bool true)) tb (seeA sn1 (up8 pgsR F 0)) (up8 entsR F 0).length 0 by
    have e1 : up8 pgsR F 0 = [] := rfl
    have e2 : up8 entsR F 0 = [] := rfl
    rw [e1, e2, seeA_nil]
    exact T3)
  clear T2 A2 O2 o3
  go_upto_region 6 with fail
  generalize w2.setCell ⟨tb, 1, none⟩ (.bool true) = w3 at *
  clear t1 t1f
  go_upto_region 7 with fail
  have nSt := hO.S
  go_loopw [6] (fun hv wr => ∃ (i dp : Nat), i ≤ 8 ∧ hv = .int .i64 i ∧ FA q wr op view ∧ TlAt wr tb (seeA sn1 (up8 pgsR F i)) (up8 entsR F i).length dp ∧ Only q.S w wr) (fun hv _ => 8 - (intOf hv).toNat)
  case atStart => exact ⟨0, 0, by omega, rfl, unhide A3, unhide T3, unhide O3⟩
  case round =>
    clear A3 T3 O3
    obtain ⟨i, dp, hi, rfl, Ai, Ti, Oi⟩ := hrel
    by_cases h8 : i < 8
    · have a1 : decide ((i : Int) < 8) = true := decide_eq_true (by omega)
      have a1p : (i : Int) < 8 := by omega
      have a2 : (i : Int) < 128 := by omega
      have qi : i < d.size := by omega
      obtain ⟨t2, t2f⟩ := Ti.cd
      have T4 := Ti.setD 0
      have o4 : Only (fun k => k = tb) wr (wr.setCell ⟨tb, 73, none⟩ (.int .i64 ((0 : Nat) : Int))) := only1 _ _
      have A4 := hide (Ai.off hO o4)
      have O4 := hide (Oi.qn o4 (by omega))
      have T4 := hide T4
      clear Ai Ti Oi o4
      go_upto_region 10 with fail
      change Code.wp _ _ _ _ (wr.setCell ⟨tb, 73, none⟩ (.int .i64 ((0 : Nat) : Int)))
      generalize wr.setCell ⟨tb, 73, none⟩ (.int .i64 ((0 : Nat) : Int)) = w4 at *
      clear t2 t2f
      have hb := byteAt_idx d i qi
      rw [(unhide HD).rt i h8] at hb
      cases hF : F i with
      | none =>
        rw [hF] at hb
        have hb' : (d[i].toNat : Int) = 0 := hb
        have e1 : up8 pgsR F (i + 1) = up8 pgsR F i := by rw [up8_succ, hF]; simp [pgsR]
        have e2 : up8 entsR F (i + 1) = up8 entsR F i := by rw [up8_succ, hF]; simp [entsR]
        have EE := hide (And.intro e1 e2)
        clear hb hF e1 e2
        go_wp2_with fail
        clear hb'
        go_roundw
        case rel => exact ⟨i + 1, 0, by omega, by go_num, unhide A4, by rw [(unhide EE).1, (unhide EE).2]; exact unhide T4, unhide O4⟩
        case measure => simp [intOf]; omega
      | some r =>
        have hp := I.pos NV_pos h8 hF
        have g := I.gd i r h8 hF
        have hp72 := NV_pg g
        rw [hF] at hb
        have hb' : (d[i].toNat : Int) = (pgT r.t : Int) := hb
        have z1 : ((pgT r.t : Int) == 0) = false := by clear hb hb'; simp; omega
        have z2 : ((pgT r.t : Int) != 0) = true := by clear hb hb'; simp; omega
        have z3 : (pgT r.t : Int) < 72 := by omega
        have hle := I.entLe h8
        rw [hF] at hle
        have hle : (up8 entsR F i).length + (entsL r.h (itT r.t)).length ≤ 64 := hle
        have C : Calls Tryz.prog 101 #[.pointer (some ⟨q.f, 0, none⟩), .pointer (some ⟨tb, 0, none⟩), .int .i64 (pgT r.t), .int .i64 1, .string ⟨#[]⟩, .bool false, .string ⟨#[]⟩, .bool false] w4 (CkR q op view w4 tb (seeA sn1 (up8 pgsR F i)) (up8 entsR F i).length 1 r.h r.t) :=
          cwalk_all r.h w4 (unhide A4) bE none (lo0 r.h) r.t g tb _ _ 0 (unhide T4) hO 1 (Nat.le_refl _) (by have := I.ht h8 hF; omega) (.inr rfl) (.inl rfl) (I.unseen h8 hF) (by omega) ⟨#[]⟩ ⟨#[]⟩ false false (fun e => by cases e) (fun e => by cases e)
        have C := hide C
        have e1 : up8 pgsR F (i + 1) = up8 pgsR F i ++ pgs (r.h + 1) r.t := by rw [up8_succ, hF]; rfl
        have e2 : (up8 entsR F (i + 1)).length = (up8 entsR F i).length + (entsL r.h (itT r.t)).length := by rw [up8_succ, hF, List.length_append]; rfl
        have EE := hide (And.intro e1 e2)
        clear hb hF e1 e2 hle g
        go_wp2_with fail
        refine (unhide C).mono ?_
        rintro e w5 ⟨rfl, A5, T5, o5⟩
        have A5 := hide A5
        have O5 := hide (onlyTS (unhide O4) o5 (by omega))
        have T5 := hide T5
        clear hb' o5 C A4 O4 T4
        go_wp2_with fail
        go_roundw
        case rel => exact ⟨i + 1, 1 + r.h, by omega, by go_num, unhide A5, by rw [(unhide EE).1, (unhide EE).2, ← seeA_app]; exact unhide T5, unhide O5⟩
        case measure => simp [intOf]; omega
    · obtain rfl : i = 8 := by omega
      have a1 : decide (((8 : Nat) : Int) < 8) = false := decide_eq_false (by omega)
      rw [up8_8, up8_8] at Ti
      have AA := hide Ai
      have TT := hide Ti
      have OO := hide Oi
      clear Ai Ti Oi
      go_upto_region 13 with fail
      go_loopw [7] (fun nv wj => ∃ (n : Nat), n ≤ 72 ∧ nv = .int .i64 n ∧ FA q wj op view ∧ TlAt wj tb (seeA sn1 (all8 pgsR F)) (all8 entsR F).length dp ∧ Only q.S w wj) (fun nv _ => 72 - (intOf nv).toNat)
      case atStart => exact ⟨0, by omega, rfl, unhide AA, unhide TT, unhide OO⟩
      case round =>
        clear AA TT OO
        obtain ⟨n, hn, rfl, An, Tn, On⟩ := hrel
        by_cases h72 : n < 72
        · have a3 : decide ((n : Int) < 72) = true := decide_eq_true (by omega)
          have a3p : (n : Int) < 72 := by omega
          have c1 := An.ptr
          have ts := (Tn.cs h72).1
          rw [I.reach] at ts
          have CU := qused_any (An.quiet (Only.refl (fun _ => False) _).drew) n
          have HH := hide (And.intro (An.quiet (Only.refl (fun _ => False) _).drew) (And.intro (Tn.keep (Only.refl (fun _ => False) _).drew (fun h => h)) On.drew))
          have RR := hide (I.reach n)
          generalize (NV view n).isSome = bu at *
          have e9 : (bu != bu) = false := by simp
          have CU := hide CU
          clear An Tn On
          go_upto_region 15 with fail
          go_cut [61] (fun v wx => v = .bool false ∧ FA q wx op view ∧ TlAt wx tb (seeA sn1 (all8 pgsR F)) (all8 entsR F).length dp ∧ Only q.S w wx)
          case first =>
            go_region_held3 (fun w' => w'.cell? ⟨q.f, 0, none⟩ = some (.pointer (some ⟨q.p, 0, none⟩)) ∧ w'.cell? ⟨tb, n, none⟩ = some (.bool bu)) (first | exact ⟨x1, x2⟩ | exact ⟨c1, ts⟩) (first | (go_at_call 52; refine (unhide CU).mono ?_; rintro e w6 ⟨rfl, A6, o6⟩; have T6 := (unhide HH).2.1.keep o6 nSt; have x1 := A6.ptr; have x2 := (T6.cs h72).1; rw [unhide RR] at x2; have GG := hide (And.intro A6 (And.intro T6 ((unhide HH).2.2.qt o6))); clear A6 T6 o6))
            all_goals
              go_wp2_with fail
              go_meet
              exact ⟨by first | rfl | simp, unhide GG⟩
          case rest =>
          obtain ⟨rfl, G1⟩ := hcut
          have GG := hide G1
          clear G1 HH CU c1 ts
          go_wp2_with fail
          go_roundw
          case rel => exact ⟨n + 1, by omega, by go_num, (unhide GG).1, (unhide GG).2.1, (unhide GG).2.2⟩
          case measure => simp [intOf]; omega
        · obtain rfl : n = 72 := by omega
          have a3 : decide (((72 : Nat) : Int) < 72) = false := decide_eq_false (by omega)
          have te := Tn.ce.1
          have q8 : 8 < d.size := by omega
          have hb := byteAt_idx d 8 q8
          rw [(unhide HD).ct] at hb
          have hct := I.ct
          generalize (all8 entsR F).length = ne at *
          have hb' : (d[8].toNat : Int) = (ne : Int) := hb
          have b1 : ((ne : Int) == (ne : Int)) = true := by simp
          have b2 : decide ((ne : Int) ≤ 64) = true := decide_eq_true (by omega)
          have b3 : (ne : Int) ≤ 64 := by omega
          have b4 : (8 : Int) < 128 := by omega
          have GG := hide (And.intro An On)
          clear An On Tn hb
          go_upto_region 17 with fail
          go_quiet (fail)
          go_wp2_with fail
          go_ret
          exact ⟨by first | rfl | simp, (unhide GG).1.quiet (onlyN _ _), (unhide GG).2.trans (onlyN _ _) (fun _ _ h => h)⟩
end
end Go.Proofs.Qxb6500410aGreat
