/-
  OWN WORK. THE OBJECT STORE: Open, New.
-/
import Derived.Test.Qxb6500417aGreatOSurv
namespace Go.Proofs.Qxb6500417aGreat
open Go.RowKit
set_option linter.unusedSimpArgs false
set_option linter.unusedVariables false

structure Lays (D : Nat → Nat) (o : Ob) : Prop where
  k1 : 1 ≤ o.kd
  k4 : o.kd ≤ 4
  n180 : o.dat.length ≤ 180
  lies : Lies D o.kd o.dat.length (dF o.dat) o.ch
  by8 : ∀ j, j < o.dat.length → dF o.dat j < 256
theorem Held.lays {D : Nat → Nat} {e : Ent} {o : Ob} (h : Held D e o) : Lays D o := ⟨h.k1, h.k4, h.n180, h.lies, h.by8⟩

/-- What a device shows to Open: the table po, all of it lasting. -/
structure Img (D : Nat → Nat) (rt : Nat) (po : Nat → Ob) : Prop where
  st : ∀ i, In i → (po i).st = 0 ∨ (po i).st = 2
  free : ∀ i, In i → (po i).st = 0 → po i = Ob.free
  lays : ∀ i, In i → (po i).st = 2 → Lays D (po i)
  nodup : ∀ i, In i → (po i).ch.Nodup
  disj : ∀ i j, In i → In j → i ≠ j → ∀ b ∈ (po i).ch, b ∉ (po j).ch
  super : Super D rt po
  tw : Tw liveO po

def cutO (po : Nat → Ob) (k : Nat) : Nat → Ob := fun i => if i < k then po i else Ob.free
theorem cutO_at (po : Nat → Ob) (k : Nat) : cutO po k k = Ob.free := by simp [cutO]
theorem cutO_succ (po : Nat → Ob) (k : Nat) : cutO po (k + 1) = updT (cutO po k) k (po k) := by
  funext i
  unfold cutO updT
  by_cases e : i = k
  · subst e; rw [if_pos (by omega), if_pos rfl]
  · rw [if_neg e]
    show _ = if i < k then po i else Ob.free
    by_cases h : i < k
    · rw [if_pos h, if_pos (by omega)]
    · rw [if_neg h, if_neg (by omega)]

theorem store_zero : Tryz.zeroCells102 = tabV 308 (fun off => if off = 0 then .pointer none else scell 0 (fun _ => Ent.zero) (fun _ => 0) (fun _ => 0) 0 0 off) := by kernel_rfl
theorem store_new (d : Nat) : (Tryz.zeroCells102.setIfInBounds 0 (.pointer (some ⟨d, 0, none⟩))).setIfInBounds 306 (.int .i64 48) = tabV 308 (scell d (fun _ => Ent.zero) (fun _ => 0) (fun _ => 0) 48 0) := by
  rw [store_zero, tabV_set, tabV_set]
  apply tabV_congr
  intro j hj
  by_cases h6 : j = 306
  · subst h6; rfl
  · rw [if_neg h6]
    by_cases h0 : j = 0
    · subst h0; rfl
    · rw [if_neg h0, if_neg h0]
      unfold scell
      rw [if_neg h0, if_neg h0, if_neg h6, if_neg h6]

theorem cntF_free : cntF (fun _ => Ob.free) = 48 := by decide
theorem rows_zero (D : Nat → Nat) : Rows D (fun _ => Ent.zero) (fun _ => 0) 48 (fun _ => Ob.free) := by
  refine ⟨fun _ _ => rfl, fun _ _ => by simp [Ob.free], fun _ _ _ => ⟨rfl, rfl⟩, fun _ _ h => absurd rfl h, fun _ _ => List.nodup_nil, ?_, ?_, ?_, ?_, cntF_free.symm⟩
  · intro i j _ _ _ b hb; simp [Ob.free] at hb
  · intro b hb
    constructor
    · intro h; unfold usedW at h; simp at h
    · rintro ⟨i, _, hm⟩; simp [Ob.free] at hm
  · intro k hk; show (0 : Nat) < 18446744073709551616; omega
  · intro j _; simp
theorem bucks_zero : Bucks (fun _ => Ent.zero) (fun _ => 0) (fun _ => Ob.free) (fun _ => []) := by
  refine ⟨fun b hb => ⟨rfl, fun i hi => by simp at hi, fun a ha => by simp at ha, List.nodup_nil⟩, fun b hb a => ?_⟩
  constructor
  · intro h; simp at h
  · rintro ⟨_, h, _⟩; simp [liveO, Ob.free] at h

section
variable {w : World} {s d : Nat} {tab : Nat → Ent} {hd us : Nat → Nat} {nf rt : Nat} {D B : Nat → Nat} {recs : List Rec} {F : Nat → Prop} {ob : Nat → Ob} {bk : Nat → List Nat} {po : Nat → Ob}

theorem Img.last (h : Img D rt po) {i : Nat} (hi : In i) : lastO (po i) = liveO (po i) := by
  unfold lastO liveO
  rcases h.st i hi with e | e <;> rw [e] <;> rfl
theorem Img.sinv (h : Img D rt po) (hr : Rows D tab us nf po) (hb : Bucks tab hd po bk) : SInv D tab hd us nf rt po bk :=
  ⟨hr, hb, h.super, h.tw, h.tw.sub (fun i hi h1 => ⟨by rw [← h.last hi]; exact h1, rfl, rfl⟩)⟩

set_option maxRecDepth 100000 in
set_option maxHeartbeats 4000000 in
theorem open_any (hv : DevAt w d D B recs F) (hI : Img D rt po) :
    Calls Tryz.prog 32 #[.pointer (some ⟨d, 0, none⟩)] w fun e w' => e = .returned (.pointer (some ⟨w.heap.size, 0, none⟩)) ∧ OS w' w.heap.size d D B recs po rt F ∧ Only (fun _ => False) w w' := by
  have hFi := hv.inn
  have hs0 : SAt (w.alloc (.cells ((Tryz.zeroCells102.setIfInBounds 0 (.pointer (some ⟨d, 0, none⟩))).setIfInBounds 306 (.int .i64 48)) 102)) w.heap.size d (fun _ => Ent.zero) (fun _ => 0) (fun _ => 0) 48 0 := by
    have := Has.new w ((Tryz.zeroCells102.setIfInBounds 0 (.pointer (some ⟨d, 0, none⟩))).setIfInBounds 306 (.int .i64 48)) 102
    exact (congrArg (fun a => Has (w.alloc (.cells ((Tryz.zeroCells102.setIfInBounds 0 (.pointer (some ⟨d, 0, none⟩))).setIfInBounds 306 (.int .i64 48)) 102)) w.heap.size a 102) (store_new d)).mp this
  have ho0 : Only (fun _ => False) w (w.alloc (.cells ((Tryz.zeroCells102.setIfInBounds 0 (.pointer (some ⟨d, 0, none⟩))).setIfInBounds 306 (.int .i64 48)) 102)) := (Only.refl _ w).alloc _
  have hsz0 : (w.alloc (.cells ((Tryz.zeroCells102.setIfInBounds 0 (.pointer (some ⟨d, 0, none⟩))).setIfInBounds 306 (.int .i64 48)) 102)).heap.size = w.heap.size + 1 := by simp
  have hFs : ¬ F w.heap.size := fun h => absurd (hFi _ h) (Nat.lt_irrefl _)
  go_enter Tryz.func32, Tryz.ntmps32
  go_wp2_with fail
  generalize hW : w.alloc (.cells ((Tryz.zeroCells102.setIfInBounds 0 (.pointer (some ⟨d, 0, none⟩))).setIfInBounds 306 (.int .i64 48)) 102) = w0 at *
  generalize (Tryz.zeroCells102.setIfInBounds 0 (.pointer (some ⟨d, 0, none⟩))).setIfInBounds 306 (.int .i64 48) = zc at *
  clear hW
  have C1 := hide (oblock_any hs0 (hv.quiet ho0) 0 (by omega))
  generalize hs_ : w.heap.size = s at *
  have Hs_ := hide hs_
  refine (unhide C1).mono ?_
  rintro e w1 ⟨rfl, hg1, ho1⟩
  have hs1 := hs0.keep ho1 (fun h => h)
  have c0 := hg1.cell 0
  rw [u8_get _ _ _ (by omega)] at c0
  have hD0 : ∀ j, blkF D 0 j = D j := fun j => by unfold blkF; simp
  have hr0 : blkF D 0 0 = rt := by rw [hD0]; exact hI.super.root0
  have hrt := hI.super.root1
  rw [hr0] at c0
  have c7 := hs1.root
  have hs2 := hs1.setRoot rt
  have rt256 : (rt : Int) < 256 := by omega
  have hgs : w0.heap.size ≠ s := by omega
  have ho01 := ho0.trans ho1 (fun _ _ h => h)
  have o2 : Only (fun _ => False) w (w1.setCell ⟨s, 307, none⟩ (.int .i64 (rt : Int))) := ho01.setCell (p := ⟨s, 307, none⟩) (fun h => absurd h (by show ¬ s < w.heap.size; rw [hs_]; omega)) _
  have hg2 := hg1.setCell_other (p := ⟨s, 307, none⟩) hgs (.int .i64 (rt : Int))
  have hM0 : Mid (w1.setCell ⟨s, 307, none⟩ (.int .i64 (rt : Int))) s d D (cutO po 1) rt := Mid.ext ⟨_, _, _, _, _, hs2, rows_zero D, bucks_zero⟩ (fun i hin => by
    have := hin.1
    unfold cutO
    rw [if_neg (by omega)])
  have HM0 := hide hM0
  have HG2 := hide hg2
  have O2 := hide o2
  generalize w0.heap.size = g at *
  clear C1 hM0 hg1 hg2 o2 hs1 hs2 hs_ hsz0 hs0 ho0 ho1 ho01
  go_wp2_with fail
  go_loopw [5] (fun kv wr => ∃ k : Nat, 1 ≤ k ∧ k ≤ 49 ∧ kv = .int .i64 k ∧ Mid wr s d D (cutO po k) rt ∧ Has wr g (tabV 64 (u8f (blkF D 0))) 5 ∧ Only (fun _ => False) w wr) (fun kv _ => (49 - intOf kv).toNat)
  case atStart => exact ⟨1, by omega, by omega, rfl, unhide HM0, unhide HG2, unhide O2⟩
  case round =>
    clear HM0 HG2 O2 c0 c7
    obtain ⟨k, hk1, hk, rfl, hM, hg, ho⟩ := hrel
    have hsw : w.heap.size = s := unhide Hs_
    by_cases hk8 : k < 49
    · have hin : In k := ⟨hk1, by omega⟩
      have a1 : decide ((k : Int) ≤ 48) = true := by simp; omega
      have a2 : (k : Int) < 49 := by omega
      have a3 : (k : Int) < 64 := by omega
      have c0 := hg.cell k
      rw [u8_get _ _ _ (by omega), hD0, hI.super.row k hin, hI.last hin] at c0
      have hsu := cutO_succ po k
      rcases hI.st k hin with h0 | h2
      · have hlv : liveO (po k) = false := by unfold liveO; rw [h0]; rfl
        rw [hlv] at c0
        have hfr := hI.free k hin h0
        have hsame : cutO po (k + 1) = cutO po k := by
          rw [hsu, hfr]
          have := updT_self (cutO po k) k
          rw [cutO_at] at this
          exact this
        rw [← hsame] at hM
        have HM := hide hM
        simp only [Bool.false_eq_true, if_false] at c0
        clear hM hsame hsu hfr
        go_wp2_with fail
        go_roundw
        case rel => exact ⟨k + 1, by omega, by omega, by go_num, unhide HM, hg, ho⟩
        case measure => simp [intOf]; omega
      · have hlv : liveO (po k) = true := by unfold liveO; rw [h2]; rfl
        rw [hlv] at c0
        simp only [if_true] at c0
        have hL := hI.lays k hin h2
        have hf1 := hL.lies.rng 0 (by have := hL.lies.le3.1; omega)
        have hv1 := hv.quiet ho
        obtain ⟨tab, hd, us, nf, bk, hs, hR, hB⟩ := hM.ex
        have hk4 := hL.k4
        have hhlt : hashN (dF (po k).dat) (po k).kd (po k).dat.length < 4294967296 := hashN_lt _ _ (by omega) _
        have C2 := hide (survey_any hs hv1 hL.lies hL.k1 hL.k4 hL.n180 hL.by8 ((po k).ch.getD 0 0) rfl (hashN (dF (po k).dat) (po k).kd (po k).dat.length) rfl)
        have hun : ∀ b ∈ (po k).ch, usedW us b = false := by
          intro b hb
          cases hu : usedW us b with
          | false => rfl
          | true =>
            exfalso
            obtain ⟨i, hi, hm⟩ := (hR.used b (hL.lies.mem b hb).2).1 hu
            unfold cutO at hm
            by_cases hik : i < k
            · rw [if_pos hik] at hm
              exact hI.disj i k hi hin (by omega) b hm hb
            · rw [if_neg hik] at hm; simp [Ob.free] at hm
        have hH : Held D ⟨2, (po k).kd, (po k).dat.length, (po k).ch.getD 0 0, hashN (dF (po k).dat) (po k).kd (po k).dat.length, 0⟩ (po k) := ⟨rfl, hL.k1, hL.k4, rfl, hL.n180, rfl, rfl, hL.lies, hL.by8⟩
        have hR2 := hR.take hin (by rw [cutO_at]; rfl) ⟨2, (po k).kd, (po k).dat.length, (po k).ch.getD 0 0, hashN (dF (po k).dat) (po k).kd (po k).dat.length, 0⟩ (po k) (by omega) (by omega) h2.symm hH (hI.nodup k hin) hun (fun _ _ _ _ _ => rfl)
        have hnf := hR.nfree
        have hnf1 : 1 ≤ nf := by
          have := cntTo_turn (p := isFree (cutO po k)) (q := fun j => if j = k then false else isFree (cutO po k) j) (j := k) (by unfold isFree; rw [cutO_at]; simp [Ob.free]; omega) (by simp) (fun j hj => by simp [hj]) 49 hk8
          unfold cntF at hnf
          omega
        have hnf2 : nf ≤ 48 := by have := cntF_le (cutO po k); omega
        have hb8 : hashN (dF (po k).dat) (po k).kd (po k).dat.length % 8 < 8 := Nat.mod_lt _ (by omega)
        have hB2 := hB.hang (tab' := setNext (updT tab k ⟨2, (po k).kd, (po k).dat.length, (po k).ch.getD 0 0, hashN (dF (po k).dat) (po k).kd (po k).dat.length, 0⟩) k (hd (hashN (dF (po k).dat) (po k).kd (po k).dat.length % 8))) (ob' := updT (cutO po k) k (po k)) hin hb8 (by rw [cutO_at]; rfl) (by rw [updT_same]; exact hlv) (fun j hj => updT_other _ _ _ _ hj) (fun j hj => by rw [setNext_other hj, updT_other _ _ _ _ hj]) setNext_same (by unfold setNext; rw [updT_same, updT_same])
        have hR3 := hR2.next ((NextOnly.refl _).setNext k (hd (hashN (dF (po k).dat) (po k).kd (po k).dat.length % 8))) (fun j hj h0 => setNext_other (fun e => by subst e; rw [updT_same, h2] at h0; simp at h0))
        have C4 := hide (fun (wx : World) (hx : SAt wx s d (updT tab k ⟨2, (po k).kd, (po k).dat.length, (po k).ch.getD 0 0, hashN (dF (po k).dat) (po k).kd (po k).dat.length, 0⟩) hd us (nf - 1) rt) (hvx : DevAt wx d D B recs F) => claim_any hx hvx hFs hL.lies hR.words ((po k).ch.getD 0 0) rfl)
        have hwords := hR.words
        have HR3 := hide hR3
        have HB2 := hide hB2
        have Hsu := hide hsu
        have HL := hide hL
        clear hR hB hR2 hR3 hB2 hH hun hsu hM hnf hL
        generalize hashN (dF (po k).dat) (po k).kd (po k).dat.length = hsh at *
        generalize (po k).ch.getD 0 0 = fb at *
        generalize (po k).dat.length = n at *
        generalize hkk : (po k).kd = kk at *
        have Hkk := hide hkk
        clear hkk
        have f256 : (fb : Int) < 256 := by omega
        have fne : ((fb : Int) != 0) = true := by simp; omega
        go_wp2_with fail
        refine (unhide C2).mono ?_
        rintro e w2 ⟨rfl, ho2⟩
        have hs2 := hs.keep ho2 (fun h => h)
        have hg2 := hg.keep ho2 (fun h => h)
        have hwz := ho.size
        have hwz2 := ho2.size
        have hgl := hg2.lt
        have hsl2 := Has.lt hs2
        have ho2' := ho.trans ho2 (fun _ _ h => h)
        have hs3 : SAt (w2.alloc (.cells #[.int .i64 2, .int .i64 (kk : Int), .int .i64 (n : Int), .int .i64 (fb : Int), .int .u32 (hsh : Int), .int .i64 0] 96)) s d tab hd us nf rt := Has.alloc hs2 _
        have he3 := Has.new w2 #[.int .i64 2, .int .i64 (kk : Int), .int .i64 (n : Int), .int .i64 (fb : Int), .int .u32 (hsh : Int), .int .i64 0] 96
        have hg3 := hg2.alloc (.cells #[.int .i64 2, .int .i64 (kk : Int), .int .i64 (n : Int), .int .i64 (fb : Int), .int .u32 (hsh : Int), .int .i64 0] 96)
        have ho3 := ho2'.alloc (.cells #[.int .i64 2, .int .i64 (kk : Int), .int .i64 (n : Int), .int .i64 (fb : Int), .int .u32 (hsh : Int), .int .i64 0] 96)
        have t0 := he3.cell 0
        have t1 := he3.cell 1
        have t2 := he3.cell 2
        have t3 := he3.cell 3
        have t4 := he3.cell 4
        have t5 := he3.cell 5
        have z0 := hs3.state k hk8
        have z1 := hs3.ent k 1 hk8 (by omega)
        have z2 := hs3.ent k 2 hk8 (by omega)
        have z3 := hs3.ent k 3 hk8 (by omega)
        have z4 := hs3.ent k 4 hk8 (by omega)
        have z5 := hs3.ent k 5 hk8 (by omega)
        have z6 := hs3.nfree
        simp only [entCell] at z0 z1 z2 z3 z4 z5
        have hp := (hs3.putEnt k hk8 ⟨2, kk, n, fb, hsh, 0⟩).setNfree (nf - 1)
        have hop : Only (fun k => k = s) (w2.alloc (.cells #[.int .i64 2, .int .i64 (kk : Int), .int .i64 (n : Int), .int .i64 (fb : Int), .int .u32 (hsh : Int), .int .i64 0] 96)) _ := (only6 (i := k) (Only.refl (fun k => k = s) (w2.alloc (.cells #[.int .i64 2, .int .i64 (kk : Int), .int .i64 (n : Int), .int .i64 (fb : Int), .int .u32 (hsh : Int), .int .i64 0] 96))) (fun _ => rfl) (.int .i64 ((2 : Nat) : Int)) (.int .i64 (kk : Int)) (.int .i64 (n : Int)) (.int .i64 (fb : Int)) (.int .u32 (hsh : Int)) (.int .i64 ((0 : Nat) : Int))).setCell (p := ⟨s, 306, none⟩) (fun _ => rfl) (.int .i64 ((nf - 1 : Nat) : Int))
        have enf : ((nf - 1 : Nat) : Int) = (nf : Int) - 1 := by omega
        have e2 : ((2 : Nat) : Int) = 2 := rfl
        have e0 : ((0 : Nat) : Int) = 0 := rfl
        have hpd := Has.drew hp
        rw [enf, e2, e0] at hpd hop
        have hop := hop.drew
        generalize tab k = te at *
        have Hpd := hide hpd
        have Hop := hide hop
        have HG3 := hide hg3
        have HO3 := hide ho3
        have HDv := hide ((hv.quiet ho3).keep hop (fun y hy e => hFs (e ▸ hy)))
        have HEs := hide he3
        have hne3 : s ≠ w2.heap.size := by omega
        have hne3' : w2.heap.size ≠ s := by omega
        clear hs hg hs2 hg2 hp hop hpd hg3 ho3 e2 e0 enf he3 C2 hs3
        go_wp2_with fail
        generalize w2.alloc (.cells #[.int .i64 2, .int .i64 (kk : Int), .int .i64 (n : Int), .int .i64 (fb : Int), .int .u32 (hsh : Int), .int .i64 0] 96) = w3 at *
        go_region
        all_goals
          go_wp2_with fail
          refine ((unhide C4) _ (unhide Hpd) (unhide HDv)).mono ?_
          rintro e w5 ⟨rfl, hs5, ho5⟩
          have C5 := hide (hang_any hs5 k hk8 (by rw [updT_same]; exact hhlt))
          go_wp2_with fail
          refine (unhide C5).mono ?_
          rintro e w6 ⟨rfl, hs6, ho6⟩
          go_wp2_with fail
          go_roundw
          case rel =>
            have hoS := ((unhide Hop).trans ho5 (fun _ _ h => h)).trans ho6 (fun _ _ h => h)
            simp only [updT_same] at hs6
            exact ⟨k + 1, by omega, by omega, by go_num, by rw [unhide Hsu]; exact ⟨_, _, _, _, _, hs6, unhide HR3, unhide HB2⟩, (unhide HG3).keep hoS hgs, (unhide HO3).trans hoS (fun i hi e => by omega)⟩
          case measure => simp [intOf]; omega
    · obtain rfl : k = 49 := by omega
      have hM' : Mid wr s d D po rt := hM.ext (fun i hin => by
        have := hin.2
        unfold cutO
        rw [if_pos (by omega)])
      obtain ⟨tab, hd, us, nf, bk, hs, hR, hB⟩ := hM'.ex
      have Hfin := hide (hI.sinv hR hB)
      clear hM hM' hR hB
      go_wp2_with fail
      go_ret
      rw [hsw]
      exact ⟨rfl, ⟨⟨_, _, _, _, _, hs, unhide Hfin⟩, hv.quiet ho, hFs⟩, ho⟩

end
end Go.Proofs.Qxb6500417aGreat
