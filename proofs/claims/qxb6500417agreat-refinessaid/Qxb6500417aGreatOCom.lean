/-
  OWN WORK. THE OBJECT STORE: Commit.
-/
import Derived.Test.Qxb6500417aGreatOOps
namespace Go.Proofs.Qxb6500417aGreat
open Go.RowKit
set_option linter.unusedSimpArgs false
set_option linter.unusedVariables false

theorem blk_put_other {D : Nat → Nat} {b c : Nat} {x : Nat → Nat} {j : Nat} (h : c ≠ b) (hj : j < 64) : blkF (putB D b x) c j = blkF D c j := by
  unfold blkF putB
  rw [if_neg (by omega)]
theorem blk_put_same {D : Nat → Nat} {b : Nat} {x : Nat → Nat} {j : Nat} (hj : j < 64) : blkF (putB D b x) b j = x j := by
  unfold blkF putB
  rw [if_pos (by omega)]
  congr 1
  omega

def supK (ob : Nat → Ob) (r k : Nat) : Nat → Nat := fun j => if j = 0 then r else if j < k ∧ liveO (ob j) = true then (ob j).ch.getD 0 0 else 0
def supF (ob : Nat → Ob) (r : Nat) : Nat → Nat := supK ob r 49
theorem supK_start (ob : Nat → Ob) (r : Nat) : (fun j => if j = 0 then r else 0) = supK ob r 1 := by
  funext j
  unfold supK
  by_cases h : j = 0
  · simp [h]
  · rw [if_neg h, if_neg h, if_neg (by omega)]
theorem supK_live (ob : Nat → Ob) (r k : Nat) (hk : 1 ≤ k) (hl : liveO (ob k) = true) : (fun j => if j = k then (ob k).ch.getD 0 0 else supK ob r k j) = supK ob r (k + 1) := by
  funext j
  unfold supK
  by_cases e : j = k
  · subst e; rw [if_pos rfl, if_neg (by omega), if_pos ⟨by omega, hl⟩]
  · rw [if_neg e]
    by_cases h0 : j = 0
    · rw [if_pos h0, if_pos h0]
    · rw [if_neg h0, if_neg h0]
      by_cases h : j < k ∧ liveO (ob j) = true
      · rw [if_pos h, if_pos ⟨by omega, h.2⟩]
      · rw [if_neg h, if_neg (fun h2 => h ⟨by omega, h2.2⟩)]
theorem supK_dead (ob : Nat → Ob) (r k : Nat) (hl : liveO (ob k) = false) : supK ob r k = supK ob r (k + 1) := by
  funext j
  unfold supK
  by_cases h0 : j = 0
  · rw [if_pos h0, if_pos h0]
  · rw [if_neg h0, if_neg h0]
    by_cases e : j = k
    · subst e; rw [if_neg (by omega), if_neg (by rw [hl]; simp)]
    · by_cases h : j < k ∧ liveO (ob j) = true
      · rw [if_pos h, if_pos ⟨by omega, h.2⟩]
      · rw [if_neg h, if_neg (fun h2 => h ⟨by omega, h2.2⟩)]

theorem com_last (o : Ob) (h3 : o.st ≤ 3) : lastO (comO o) = liveO o ∧ liveO (comO o) = liveO o := by
  unfold comO
  by_cases e1 : o.st = 1
  · rw [if_pos e1]; unfold liveO; rw [e1]; exact ⟨rfl, rfl⟩
  · rw [if_neg e1]
    by_cases e3 : o.st = 3
    · rw [if_pos e3]; unfold liveO; rw [e3]; exact ⟨rfl, rfl⟩
    · rw [if_neg e3]
      refine ⟨?_, rfl⟩
      unfold liveO lastO
      have : o.st = 0 ∨ o.st = 2 := by omega
      rcases this with h | h <;> rw [h] <;> rfl
theorem com_keep (o : Ob) (h : liveO o = true) : (comO o).ch = o.ch ∧ (comO o).kd = o.kd ∧ (comO o).dat = o.dat := by
  unfold comO
  by_cases e1 : o.st = 1
  · rw [if_pos e1]; exact ⟨rfl, rfl, rfl⟩
  · rw [if_neg e1]
    by_cases e3 : o.st = 3
    · unfold liveO at h; rw [e3] at h; simp at h
    · rw [if_neg e3]; exact ⟨rfl, rfl, rfl⟩

section
variable {w : World} {s d : Nat} {tab : Nat → Ent} {hd us : Nat → Nat} {nf rt : Nat} {D B : Nat → Nat} {recs : List Rec} {F : Nat → Prop} {ob : Nat → Ob} {bk : Nat → List Nat}

theorem Rows.dev {D' : Nat → Nat} (h : Rows D tab us nf ob) (he : ∀ c, 1 ≤ c → c < 145 → ∀ j, j < 64 → blkF D' c j = blkF D c j) : Rows D' tab us nf ob :=
  ⟨h.st, h.le3, h.free, fun i hi h0 => (h.held i hi h0).congr (fun b hb => he b (h.chlt hi b hb).1 (h.chlt hi b hb).2), h.nodup, h.disj, h.used, h.words, h.high, h.nfree⟩

theorem commit_no (h : OS w s d D B recs ob rt F) (id : Int) (h0 : id ≠ 0) (hl : liveI ob id = false) :
    Calls Tryz.prog 167 #[.pointer (some ⟨s, 0, none⟩), .int .i64 id] w fun e w' => e = .returned (.int .i64 6) ∧ w = w' := by
  obtain ⟨⟨tab, hd, us, nf, bk, hs, hi⟩, hv, hf⟩ := h
  have C1 := live_any hs hi.rows id
  rw [hl] at C1
  have C1 := hide C1
  have b0 : (id != 0) = true := by simpa using h0
  go_enter Tryz.func167, Tryz.ntmps167
  go_wp2_with fail
  refine (unhide C1).mono ?_
  rintro e w1 ⟨rfl, rfl⟩
  go_wp2_with fail
  go_ret
  exact ⟨rfl, rfl⟩

/-- What Commit's second loop keeps. -/
structure ComI (w : World) (s d : Nat) (D B : Nat → Nat) (recs : List Rec) (ob : Nat → Ob) (rt k : Nat) (F : Nat → Prop) (wr : World) : Prop where
  mid : Mid wr s d D (upTo comO ob k) rt
  dev : DevAt wr d D B recs F

set_option maxRecDepth 100000 in
set_option maxHeartbeats 4000000 in
theorem commit_in (h : OS w s d D B recs ob rt F) (r : Nat) (hr : r = 0 ∨ (In r ∧ liveO (ob r) = true)) (hrl : recs.length ≤ 1000) :
    Calls Tryz.prog 167 #[.pointer (some ⟨s, 0, none⟩), .int .i64 r] w fun e w' => e = .returned (.int .i64 0) ∧ OS w' s d (putB D 0 (supF ob r)) B (recs ++ [(0, supF ob r)]) (fun i => comO (ob i)) r (Ext F w w') ∧ Only (fun k => k = s ∨ F k) w w' := by
  obtain ⟨⟨tab, hd, us, nf, bk, hs, hi⟩, hv, hf⟩ := h
  have hm : (Instr.makeSlice 90 (.int .i64 64) (.int .i64 64)).run Tryz.prog w = .ok (.slice (some ⟨w.heap.size, 0, none⟩) 64 64) (w.alloc (.cells (tabV 64 (u8f (fun _ => 0))) 5)) := run_make_bytes w 64 (by omega)
  have hsl := Has.lt hs
  have r48 : r ≤ 48 := by rcases hr with rfl | ⟨h1, _⟩; omega; exact h1.2
  have hFi := hv.inn
  have HS := hide hs
  have Hv := hide hv
  have Hi := hide hi
  have eArr : (tabV 64 (u8f (fun _ => 0))).setIfInBounds 0 (.int .u8 (r : Int)) = tabV 64 (u8f (supK ob r 1)) := by rw [u8_set, supK_start ob r]
  have hg := Has.new w ((tabV 64 (u8f (fun _ => 0))).setIfInBounds 0 (.int .u8 (r : Int))) 5
  have hg := (congrArg (fun a => Has (w.alloc (.cells ((tabV 64 (u8f (fun _ => 0))).setIfInBounds 0 (.int .u8 (r : Int))) 5)) w.heap.size a 5) eArr).mp hg
  have Hg := hide hg
  have h0' := Has.new w (tabV 64 (u8f (fun _ => 0))) 5
  have c0 := h0'.cell 0
  rw [u8_get _ _ _ (by omega)] at c0
  have z0 := h0'.free 0
  have r256 : (r : Int) < 256 := by omega
  have C1 := hide (live_any hs hi.rows r)
  have hlr : r ≠ 0 → liveI ob (r : Int) = true := by
    intro h0
    rcases hr with h | ⟨h1, h2⟩
    · exact absurd h h0
    · rw [liveI_nat ob r h1]; exact h2
  have Hlr := hide hlr
  clear hlr hs hv hi hg eArr h0'
  by_cases hr0 : r = 0
  · have b0 : ((r : Int) != 0) = false := by simp; omega
    have Hr0 := hide hr0
    clear hr0 C1 Hlr
    go_enter Tryz.func167, Tryz.ntmps167
    go_wp2_with fail
    go_loopw [6] (fun kv wr => ∃ k : Nat, 1 ≤ k ∧ k ≤ 49 ∧ kv = .int .i64 k ∧ Has wr w.heap.size (tabV 64 (u8f (supK ob r k))) 5 ∧ Only (fun _ => False) w wr) (fun kv _ => (49 - intOf kv).toNat)
    case atStart => exact ⟨1, by omega, by omega, rfl, unhide Hg, (Only.refl _ w).alloc _⟩
    case round =>
      clear Hg c0 z0 hm
      obtain ⟨k, hk1, hk, rfl, hg, ho⟩ := hrel
      have hs := (unhide HS).keep ho (fun h => h)
      by_cases hk8 : k < 49
      · have hin : In k := ⟨hk1, by omega⟩
        have a1 : decide ((k : Int) ≤ 48) = true := by simp; omega
        have a2 : (k : Int) < 49 := by omega
        have a3 : (k : Int) < 64 := by omega
        have C2 := live_any hs (unhide Hi).rows k
        rw [liveI_nat ob k hin] at C2
        cases hlk : liveO (ob k) with
        | true =>
          rw [hlk] at C2
          have C2 := hide C2
          have hH := (unhide Hi).rows.held k hin (liveO_ne hlk)
          have c3 := (hs.ent k 3 hk8 (by omega)).1
          simp only [entCell] at c3
          rw [hH.first] at c3
          have f5 := hH.lies.nxt 0
          have q1 := hg.cell k
          rw [u8_get _ _ _ (by omega)] at q1
          have z1 := hg.free k
          have s1 := hg.setCell k (.int .u8 (((ob k).ch.getD 0 0 : Nat) : Int))
          rw [u8_set, supK_live ob r k hk1 hlk] at s1
          have Hs1 := hide s1
          clear s1 hH hs
          generalize (ob k).ch.getD 0 0 = fb at *
          generalize supK ob r k k = y0 at *
          have f6 : (fb : Int) < 256 := by omega
          go_wp2_with fail
          refine (unhide C2).mono ?_
          rintro e w1 ⟨rfl, rfl⟩
          go_wp2_with fail
          go_roundw
          case rel => exact ⟨k + 1, by omega, by omega, by go_num, unhide Hs1, ho.setCell (p := ⟨w.heap.size, k, none⟩) (fun hlt => absurd hlt (Nat.lt_irrefl _)) _⟩
          case measure => simp [intOf]; omega
        | false =>
          rw [hlk] at C2
          have C2 := hide C2
          rw [supK_dead ob r k hlk] at hg
          have Hs1 := hide hg
          clear hs hg
          go_wp2_with fail
          refine (unhide C2).mono ?_
          rintro e w1 ⟨rfl, rfl⟩
          go_wp2_with fail
          go_roundw
          case rel => exact ⟨k + 1, by omega, by omega, by go_num, unhide Hs1, ho⟩
          case measure => simp [intOf]; omega
      · obtain rfl : k = 49 := by omega
        have cd := hs.dev
        have hv1 := (unhide Hv).quiet ho
        have hgF : ¬ F w.heap.size := fun e => absurd (hFi _ e) (Nat.lt_irrefl _)
        have C3 := hide (dvwrite_in hv1 0 (by omega) (supK ob r 49) hg hgF hrl)
        have hsz := ho.size
        have Hsv := hide hs
        clear hs
        go_wp2_with fail
        refine (unhide C3).mono ?_
        rintro e w2 ⟨rfl, hv2, ho2⟩
        have hs2 := (unhide Hsv).keep ho2 hf
        have hR2 : Rows (putB D 0 (supF ob r)) tab us nf ob := (unhide Hi).rows.dev (fun c h1 _ j hj => blk_put_other (by omega) hj)
        have hM0 : Mid w2 s d (putB D 0 (supF ob r)) (upTo comO ob 1) rt := Mid.ext ⟨tab, hd, us, nf, bk, hs2, hR2, (unhide Hi).bucks⟩ (fun i hin => by
          unfold upTo
          have h1 : 1 ≤ i := hin.1
          rw [if_neg (by omega)])
        have hoA : Only (fun k => k = s ∨ F k) w w2 := (ho.mono (fun _ _ h => h.elim)).trans ho2 (fun _ _ h => .inr h)
        have hsz2 := ho2.size
        have hfE : ¬ Ext F wr w2 s := fun h => by rcases h with h | h; exact hf h; omega
        have HM0 := hide hM0
        have HV2 := hide hv2
        have Hsup : Hid (supK ob r 49 = supF ob r) := hide rfl
        clear hM0 hR2 hs2 hv2 C3 hg hv1 Hsv cd
        go_wp2_with fail
        go_loopw [7] (fun kv wx => ∃ k : Nat, 1 ≤ k ∧ k ≤ 49 ∧ kv = .int .i64 k ∧ ComI w2 s d (putB D 0 (supF ob r)) B (recs ++ [(0, supF ob r)]) ob rt k (Ext F wr w2) wx ∧ Only (fun k => k = s) w2 wx) (fun kv _ => (49 - intOf kv).toNat)
        case atStart => exact ⟨1, by omega, by omega, rfl, ⟨unhide HM0, unhide HV2⟩, Only.refl _ _⟩
        case round =>
          clear HM0 HV2
          obtain ⟨k, hk1, hk, rfl, ⟨hM, hv3⟩, ho3⟩ := hrel
          by_cases hk8 : k < 49
          · have hin : In k := ⟨hk1, by omega⟩
            have a1 : decide ((k : Int) ≤ 48) = true := by simp; omega
            have a2 : (k : Int) < 49 := by omega
            obtain ⟨tab, hd, us, nf, bk, hs, hR, hB⟩ := hM.ex
            have hat := upTo_at comO ob k
            have hsu := upTo_succ comO ob k
            have c0 := hs.state k hk8
            rw [hR.st k hin, hat] at c0
            by_cases e1 : (ob k).st = 1
            · have ea : comO (ob k) = { ob k with st := 2 } := by unfold comO setSt; rw [if_pos e1]
              rw [ea] at hsu
              have hne : (upTo comO ob k k).st ≠ 0 := by rw [hat, e1]; omega
              rw [e1] at c0
              have hs1 := hs.setState k hk8 2
              have hr1 := hR.setState hin hne 2 (by omega) (by omega)
              rw [hat] at hr1
              have hb1 : Bucks (updT tab k { tab k with state := 2 }) hd (updT (upTo comO ob k) k { ob k with st := 2 }) bk := by
                refine hB.congr (fun a ha => ?_) (fun a ha _ => ?_)
                · by_cases e : a = k
                  · subst e; rw [updT_same, hat]; unfold liveO; rw [e1]; rfl
                  · rw [updT_other _ _ _ _ e]
                · by_cases e : a = k
                  · subst e; rw [updT_same]; exact ⟨rfl, rfl⟩
                  · rw [updT_other _ _ _ _ e]; exact ⟨rfl, rfl⟩
              have o1 : Only (fun k => k = s) wr (wr.setCell ⟨s, 1 + k * 6, none⟩ (.int .i64 ((2 : Nat) : Int))) := only1 (p := s) (1 + k * 6) _
              have Hsu := hide hsu
              have HS1 := hide hs1
              have HR1 := hide hr1
              have HB1 := hide hb1
              have hv4 := hv3.keep o1 (fun y hy e => hfE (e ▸ hy))
              clear hs hR hB hsu hs1 hr1 hb1 hM
              go_wp2_with fail
              go_roundw
              case rel => exact ⟨k + 1, by omega, by omega, by go_num, ⟨by rw [unhide Hsu]; exact ⟨_, _, _, _, _, unhide HS1, unhide HR1, unhide HB1⟩, hv4⟩, ho3.trans o1 (fun _ _ h => h)⟩
              case measure => simp [intOf]; omega
            · by_cases e3 : (ob k).st = 3
              · have ea : comO (ob k) = Ob.free := by unfold comO; rw [if_neg e1, if_pos e3]
                rw [ea] at hsu
                have hne : (upTo comO ob k k).st ≠ 0 := by rw [hat, e3]; omega
                rw [e3] at c0
                have hH := hR.held k hin hne
                have hnf : nf < 1000 := by rw [hR.nfree]; have := cntF_le (upTo comO ob k); omega
                have C4 := hide (release_any hs hv3 hfE hH.lies hR.words k hk8 hH.first hnf)
                have hr1 := hR.release hin hne
                have hb1 : Bucks (updT tab k Ent.zero) hd (updT (upTo comO ob k) k Ob.free) bk := by
                  refine hB.congr (fun a ha => ?_) (fun a ha hla => ?_)
                  · by_cases e : a = k
                    · subst e; rw [updT_same, hat]; unfold liveO; rw [e3]; rfl
                    · rw [updT_other _ _ _ _ e]
                  · by_cases e : a = k
                    · subst e; rw [hat] at hla; unfold liveO at hla; rw [e3] at hla; simp at hla
                    · rw [updT_other _ _ _ _ e]; exact ⟨rfl, rfl⟩
                have Hsu := hide hsu
                have HR1 := hide hr1
                have HB1 := hide hb1
                clear hs hR hB hsu hr1 hb1 hH hM
                go_wp2_with fail
                refine (unhide C4).mono ?_
                rintro e w4 ⟨rfl, hs4, ho4⟩
                have hv4 := hv3.keep ho4 (fun y hy e => hfE (e ▸ hy))
                go_wp2_with fail
                go_roundw
                case rel => exact ⟨k + 1, by omega, by omega, by go_num, ⟨by rw [unhide Hsu]; exact ⟨_, _, _, _, _, hs4, unhide HR1, unhide HB1⟩, hv4⟩, ho3.trans ho4 (fun _ _ h => h)⟩
                case measure => simp [intOf]; omega
              · have ea : comO (ob k) = ob k := by unfold comO; rw [if_neg e1, if_neg e3]
                rw [ea] at hsu
                have hsame : upTo comO ob (k + 1) = upTo comO ob k := by
                  rw [hsu]
                  have := updT_self (upTo comO ob k) k
                  rw [hat] at this
                  exact this
                rw [← hsame] at hM
                have HM := hide hM
                clear hM hsame hsu hR hB hs ea hat
                generalize (ob k).st = st at *
                have b1 : ((st : Int) == 1) = false := ne_intO (by omega)
                have b3 : ((st : Int) == 3) = false := ne_intO (by omega)
                go_wp2_with fail
                go_roundw
                case rel => exact ⟨k + 1, by omega, by omega, by go_num, ⟨unhide HM, hv3⟩, ho3⟩
                case measure => simp [intOf]; omega
          · obtain rfl : k = 49 := by omega
            have hM' : Mid wr s d (putB D 0 (supF ob r)) (fun i => comO (ob i)) rt := hM.ext (fun i hin => by
              unfold upTo
              have h2 : i ≤ 48 := hin.2
              rw [if_pos (by omega)])
            obtain ⟨tab, hd, us, nf, bk, hs, hR, hB⟩ := hM'.ex
            have hle := (unhide Hi).rows.le3
            have hD0 : ∀ j, j < 64 → putB D 0 (supF ob r) j = supF ob r j := fun j hj => by
              have := blk_put_same (D := D) (b := 0) (x := supF ob r) hj
              unfold blkF at this
              simpa using this
            have hfin : SInv (putB D 0 (supF ob r)) tab hd us nf r (fun i => comO (ob i)) bk := by
              refine ⟨hR, hB, ⟨?_, r48, ?_, ?_, ?_⟩, (unhide Hi).twl.sub ?_, (unhide Hi).twl.sub ?_⟩
              · rw [hD0 0 (by omega)]; rfl
              · intro h0
                rcases hr with h | ⟨h1, h2⟩
                · exact absurd h h0
                · rw [(com_last _ (hle r h1)).1]; exact h2
              · intro j hj
                have j1 := hj.1
                have j2 := hj.2
                rw [hD0 j (by omega), (com_last _ (hle j hj)).1]
                unfold supF supK
                rw [if_neg (by omega)]
                by_cases hlj : liveO (ob j) = true
                · rw [if_pos ⟨by omega, hlj⟩, if_pos hlj, (com_keep _ hlj).1]
                · rw [if_neg (fun h => hlj h.2), if_neg hlj]
              · intro j h1 h2
                rw [hD0 j (by omega)]
                unfold supF supK
                rw [if_neg (by omega), if_neg (by omega)]
              · intro j hj h1
                rw [(com_last _ (hle j hj)).2] at h1
                exact ⟨h1, (com_keep _ h1).2⟩
              · intro j hj h1
                rw [(com_last _ (hle j hj)).1] at h1
                exact ⟨h1, (com_keep _ h1).2⟩
            have Hfin := hide hfin
            have rc := hs.root
            have hsR := hs.setRoot r
            have HsR := hide hsR
            have o5 : Only (fun k => k = s) wr (wr.setCell ⟨s, 307, none⟩ (.int .i64 (r : Int))) := only1 (p := s) 307 _
            have hv5 := hv3.keep o5 (fun y hy e => hfE (e ▸ hy))
            have hsz3 := ho3.size
            clear hfin hM' hM hR hB hle hs hsR
            go_wp2_with fail
            go_ret
            refine ⟨rfl, ⟨⟨_, _, _, _, _, unhide HsR, unhide Hfin⟩, hv5.mono ?_ ?_, ?_⟩, (hoA.trans ho3 (fun _ _ h => .inl h)).trans o5 (fun _ _ h => .inl h)⟩
            · intro y hy
              rcases hy with hy | hy
              · exact .inl hy
              · exact .inr ⟨by omega, by simp; omega⟩
            · intro y hy
              rcases hy with hy | hy
              · have := hFi y hy; simp; omega
              · exact hy.2
            · intro h
              rcases h with h | h
              · exact hf h
              · omega
  · have b0 : ((r : Int) != 0) = true := by simp; omega
    rw [(unhide Hlr) hr0] at C1
    go_enter Tryz.func167, Tryz.ntmps167
    go_wp2_with fail
    refine (unhide C1).mono ?_
    rintro e wL ⟨rfl, rfl⟩
    go_wp2_with fail
    go_loopw [6] (fun kv wr => ∃ k : Nat, 1 ≤ k ∧ k ≤ 49 ∧ kv = .int .i64 k ∧ Has wr w.heap.size (tabV 64 (u8f (supK ob r k))) 5 ∧ Only (fun _ => False) w wr) (fun kv _ => (49 - intOf kv).toNat)
    case atStart => exact ⟨1, by omega, by omega, rfl, unhide Hg, (Only.refl _ w).alloc _⟩
    case round =>
      clear Hg c0 z0 hm
      obtain ⟨k, hk1, hk, rfl, hg, ho⟩ := hrel
      have hs := (unhide HS).keep ho (fun h => h)
      by_cases hk8 : k < 49
      · have hin : In k := ⟨hk1, by omega⟩
        have a1 : decide ((k : Int) ≤ 48) = true := by simp; omega
        have a2 : (k : Int) < 49 := by omega
        have a3 : (k : Int) < 64 := by omega
        have C2 := live_any hs (unhide Hi).rows k
        rw [liveI_nat ob k hin] at C2
        cases hlk : liveO (ob k) with
        | true =>
          rw [hlk] at C2
          have C2 := hide C2
          have hH := (unhide Hi).rows.held k hin (liveO_ne hlk)
          have c3 := (hs.ent k 3 hk8 (by omega)).1
          simp only [entCell] at c3
          rw [hH.first] at c3
          have f5 := hH.lies.nxt 0
          have q1 := hg.cell k
          rw [u8_get _ _ _ (by omega)] at q1
          have z1 := hg.free k
          have s1 := hg.setCell k (.int .u8 (((ob k).ch.getD 0 0 : Nat) : Int))
          rw [u8_set, supK_live ob r k hk1 hlk] at s1
          have Hs1 := hide s1
          clear s1 hH hs
          generalize (ob k).ch.getD 0 0 = fb at *
          generalize supK ob r k k = y0 at *
          have f6 : (fb : Int) < 256 := by omega
          go_wp2_with fail
          refine (unhide C2).mono ?_
          rintro e w1 ⟨rfl, rfl⟩
          go_wp2_with fail
          go_roundw
          case rel => exact ⟨k + 1, by omega, by omega, by go_num, unhide Hs1, ho.setCell (p := ⟨w.heap.size, k, none⟩) (fun hlt => absurd hlt (Nat.lt_irrefl _)) _⟩
          case measure => simp [intOf]; omega
        | false =>
          rw [hlk] at C2
          have C2 := hide C2
          rw [supK_dead ob r k hlk] at hg
          have Hs1 := hide hg
          clear hs hg
          go_wp2_with fail
          refine (unhide C2).mono ?_
          rintro e w1 ⟨rfl, rfl⟩
          go_wp2_with fail
          go_roundw
          case rel => exact ⟨k + 1, by omega, by omega, by go_num, unhide Hs1, ho⟩
          case measure => simp [intOf]; omega
      · obtain rfl : k = 49 := by omega
        have cd := hs.dev
        have hv1 := (unhide Hv).quiet ho
        have hgF : ¬ F w.heap.size := fun e => absurd (hFi _ e) (Nat.lt_irrefl _)
        have C3 := hide (dvwrite_in hv1 0 (by omega) (supK ob r 49) hg hgF hrl)
        have hsz := ho.size
        have Hsv := hide hs
        clear hs
        go_wp2_with fail
        refine (unhide C3).mono ?_
        rintro e w2 ⟨rfl, hv2, ho2⟩
        have hs2 := (unhide Hsv).keep ho2 hf
        have hR2 : Rows (putB D 0 (supF ob r)) tab us nf ob := (unhide Hi).rows.dev (fun c h1 _ j hj => blk_put_other (by omega) hj)
        have hM0 : Mid w2 s d (putB D 0 (supF ob r)) (upTo comO ob 1) rt := Mid.ext ⟨tab, hd, us, nf, bk, hs2, hR2, (unhide Hi).bucks⟩ (fun i hin => by
          unfold upTo
          have h1 : 1 ≤ i := hin.1
          rw [if_neg (by omega)])
        have hoA : Only (fun k => k = s ∨ F k) w w2 := (ho.mono (fun _ _ h => h.elim)).trans ho2 (fun _ _ h => .inr h)
        have hsz2 := ho2.size
        have hfE : ¬ Ext F wr w2 s := fun h => by rcases h with h | h; exact hf h; omega
        have HM0 := hide hM0
        have HV2 := hide hv2
        have Hsup : Hid (supK ob r 49 = supF ob r) := hide rfl
        clear hM0 hR2 hs2 hv2 C3 hg hv1 Hsv cd
        go_wp2_with fail
        go_loopw [7] (fun kv wx => ∃ k : Nat, 1 ≤ k ∧ k ≤ 49 ∧ kv = .int .i64 k ∧ ComI w2 s d (putB D 0 (supF ob r)) B (recs ++ [(0, supF ob r)]) ob rt k (Ext F wr w2) wx ∧ Only (fun k => k = s) w2 wx) (fun kv _ => (49 - intOf kv).toNat)
        case atStart => exact ⟨1, by omega, by omega, rfl, ⟨unhide HM0, unhide HV2⟩, Only.refl _ _⟩
        case round =>
          clear HM0 HV2
          obtain ⟨k, hk1, hk, rfl, ⟨hM, hv3⟩, ho3⟩ := hrel
          by_cases hk8 : k < 49
          · have hin : In k := ⟨hk1, by omega⟩
            have a1 : decide ((k : Int) ≤ 48) = true := by simp; omega
            have a2 : (k : Int) < 49 := by omega
            obtain ⟨tab, hd, us, nf, bk, hs, hR, hB⟩ := hM.ex
            have hat := upTo_at comO ob k
            have hsu := upTo_succ comO ob k
            have c0 := hs.state k hk8
            rw [hR.st k hin, hat] at c0
            by_cases e1 : (ob k).st = 1
            · have ea : comO (ob k) = { ob k with st := 2 } := by unfold comO setSt; rw [if_pos e1]
              rw [ea] at hsu
              have hne : (upTo comO ob k k).st ≠ 0 := by rw [hat, e1]; omega
              rw [e1] at c0
              have hs1 := hs.setState k hk8 2
              have hr1 := hR.setState hin hne 2 (by omega) (by omega)
              rw [hat] at hr1
              have hb1 : Bucks (updT tab k { tab k with state := 2 }) hd (updT (upTo comO ob k) k { ob k with st := 2 }) bk := by
                refine hB.congr (fun a ha => ?_) (fun a ha _ => ?_)
                · by_cases e : a = k
                  · subst e; rw [updT_same, hat]; unfold liveO; rw [e1]; rfl
                  · rw [updT_other _ _ _ _ e]
                · by_cases e : a = k
                  · subst e; rw [updT_same]; exact ⟨rfl, rfl⟩
                  · rw [updT_other _ _ _ _ e]; exact ⟨rfl, rfl⟩
              have o1 : Only (fun k => k = s) wr (wr.setCell ⟨s, 1 + k * 6, none⟩ (.int .i64 ((2 : Nat) : Int))) := only1 (p := s) (1 + k * 6) _
              have Hsu := hide hsu
              have HS1 := hide hs1
              have HR1 := hide hr1
              have HB1 := hide hb1
              have hv4 := hv3.keep o1 (fun y hy e => hfE (e ▸ hy))
              clear hs hR hB hsu hs1 hr1 hb1 hM
              go_wp2_with fail
              go_roundw
              case rel => exact ⟨k + 1, by omega, by omega, by go_num, ⟨by rw [unhide Hsu]; exact ⟨_, _, _, _, _, unhide HS1, unhide HR1, unhide HB1⟩, hv4⟩, ho3.trans o1 (fun _ _ h => h)⟩
              case measure => simp [intOf]; omega
            · by_cases e3 : (ob k).st = 3
              · have ea : comO (ob k) = Ob.free := by unfold comO; rw [if_neg e1, if_pos e3]
                rw [ea] at hsu
                have hne : (upTo comO ob k k).st ≠ 0 := by rw [hat, e3]; omega
                rw [e3] at c0
                have hH := hR.held k hin hne
                have hnf : nf < 1000 := by rw [hR.nfree]; have := cntF_le (upTo comO ob k); omega
                have C4 := hide (release_any hs hv3 hfE hH.lies hR.words k hk8 hH.first hnf)
                have hr1 := hR.release hin hne
                have hb1 : Bucks (updT tab k Ent.zero) hd (updT (upTo comO ob k) k Ob.free) bk := by
                  refine hB.congr (fun a ha => ?_) (fun a ha hla => ?_)
                  · by_cases e : a = k
                    · subst e; rw [updT_same, hat]; unfold liveO; rw [e3]; rfl
                    · rw [updT_other _ _ _ _ e]
                  · by_cases e : a = k
                    · subst e; rw [hat] at hla; unfold liveO at hla; rw [e3] at hla; simp at hla
                    · rw [updT_other _ _ _ _ e]; exact ⟨rfl, rfl⟩
                have Hsu := hide hsu
                have HR1 := hide hr1
                have HB1 := hide hb1
                clear hs hR hB hsu hr1 hb1 hH hM
                go_wp2_with fail
                refine (unhide C4).mono ?_
                rintro e w4 ⟨rfl, hs4, ho4⟩
                have hv4 := hv3.keep ho4 (fun y hy e => hfE (e ▸ hy))
                go_wp2_with fail
                go_roundw
                case rel => exact ⟨k + 1, by omega, by omega, by go_num, ⟨by rw [unhide Hsu]; exact ⟨_, _, _, _, _, hs4, unhide HR1, unhide HB1⟩, hv4⟩, ho3.trans ho4 (fun _ _ h => h)⟩
                case measure => simp [intOf]; omega
              · have ea : comO (ob k) = ob k := by unfold comO; rw [if_neg e1, if_neg e3]
                rw [ea] at hsu
                have hsame : upTo comO ob (k + 1) = upTo comO ob k := by
                  rw [hsu]
                  have := updT_self (upTo comO ob k) k
                  rw [hat] at this
                  exact this
                rw [← hsame] at hM
                have HM := hide hM
                clear hM hsame hsu hR hB hs ea hat
                generalize (ob k).st = st at *
                have b1 : ((st : Int) == 1) = false := ne_intO (by omega)
                have b3 : ((st : Int) == 3) = false := ne_intO (by omega)
                go_wp2_with fail
                go_roundw
                case rel => exact ⟨k + 1, by omega, by omega, by go_num, ⟨unhide HM, hv3⟩, ho3⟩
                case measure => simp [intOf]; omega
          · obtain rfl : k = 49 := by omega
            have hM' : Mid wr s d (putB D 0 (supF ob r)) (fun i => comO (ob i)) rt := hM.ext (fun i hin => by
              unfold upTo
              have h2 : i ≤ 48 := hin.2
              rw [if_pos (by omega)])
            obtain ⟨tab, hd, us, nf, bk, hs, hR, hB⟩ := hM'.ex
            have hle := (unhide Hi).rows.le3
            have hD0 : ∀ j, j < 64 → putB D 0 (supF ob r) j = supF ob r j := fun j hj => by
              have := blk_put_same (D := D) (b := 0) (x := supF ob r) hj
              unfold blkF at this
              simpa using this
            have hfin : SInv (putB D 0 (supF ob r)) tab hd us nf r (fun i => comO (ob i)) bk := by
              refine ⟨hR, hB, ⟨?_, r48, ?_, ?_, ?_⟩, (unhide Hi).twl.sub ?_, (unhide Hi).twl.sub ?_⟩
              · rw [hD0 0 (by omega)]; rfl
              · intro h0
                rcases hr with h | ⟨h1, h2⟩
                · exact absurd h h0
                · rw [(com_last _ (hle r h1)).1]; exact h2
              · intro j hj
                have j1 := hj.1
                have j2 := hj.2
                rw [hD0 j (by omega), (com_last _ (hle j hj)).1]
                unfold supF supK
                rw [if_neg (by omega)]
                by_cases hlj : liveO (ob j) = true
                · rw [if_pos ⟨by omega, hlj⟩, if_pos hlj, (com_keep _ hlj).1]
                · rw [if_neg (fun h => hlj h.2), if_neg hlj]
              · intro j h1 h2
                rw [hD0 j (by omega)]
                unfold supF supK
                rw [if_neg (by omega), if_neg (by omega)]
              · intro j hj h1
                rw [(com_last _ (hle j hj)).2] at h1
                exact ⟨h1, (com_keep _ h1).2⟩
              · intro j hj h1
                rw [(com_last _ (hle j hj)).1] at h1
                exact ⟨h1, (com_keep _ h1).2⟩
            have Hfin := hide hfin
            have rc := hs.root
            have hsR := hs.setRoot r
            have HsR := hide hsR
            have o5 : Only (fun k => k = s) wr (wr.setCell ⟨s, 307, none⟩ (.int .i64 (r : Int))) := only1 (p := s) 307 _
            have hv5 := hv3.keep o5 (fun y hy e => hfE (e ▸ hy))
            have hsz3 := ho3.size
            clear hfin hM' hM hR hB hle hs hsR
            go_wp2_with fail
            go_ret
            refine ⟨rfl, ⟨⟨_, _, _, _, _, unhide HsR, unhide Hfin⟩, hv5.mono ?_ ?_, ?_⟩, (hoA.trans ho3 (fun _ _ h => .inl h)).trans o5 (fun _ _ h => .inl h)⟩
            · intro y hy
              rcases hy with hy | hy
              · exact .inl hy
              · exact .inr ⟨by omega, by simp; omega⟩
            · intro y hy
              rcases hy with hy | hy
              · have := hFi y hy; simp; omega
              · exact hy.2
            · intro h
              rcases h with h | h
              · exact hf h
              · omega
end
end Go.Proofs.Qxb6500417aGreat
