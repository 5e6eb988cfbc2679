/-
  OWN WORK. THE OBJECT STORE: Put.
-/
import Derived.Test.Qxb6500417aGreatOPutP
namespace Go.Proofs.Qxb6500417aGreat
open Go.RowKit
set_option linter.unusedSimpArgs false
set_option linter.unusedVariables false

section
variable {w : World} {s d : Nat} {tab : Nat → Ent} {hd us : Nat → Nat} {nf rt : Nat} {D B : Nat → Nat} {recs : List Rec} {F : Nat → Prop} {ob : Nat → Ob} {bk : Nat → List Nat}

theorem put_kind (s : Nat) (w : World) (k : Int) (hk : ¬ (1 ≤ k ∧ k ≤ 4)) (v : Value) :
    Calls Tryz.prog 166 #[.pointer (some ⟨s, 0, none⟩), .int .i64 k, v] w fun e w' => e = .returned (.tuple #[.int .i64 0, .int .i64 3]) ∧ w = w' := by
  by_cases h0 : k < 1
  · have h0' : decide (k < 1) = true := by simpa using h0
    go_enter Tryz.func166, Tryz.ntmps166
    go_wp2_with fail
    go_ret2
    exact ⟨rfl, rfl⟩
  · have h0' : decide (k < 1) = false := by simpa using h0
    have h4 : decide (4 < k) = true := by simp; omega
    go_enter Tryz.func166, Tryz.ntmps166
    go_wp2_with fail
    go_ret2
    exact ⟨rfl, rfl⟩

theorem put_big (s : Nat) (w : World) (k : Nat) (hk1 : 1 ≤ k) (hk4 : k ≤ 4) (a : Option Addr) (n c : Nat) (hn : 180 < n) :
    Calls Tryz.prog 166 #[.pointer (some ⟨s, 0, none⟩), .int .i64 k, .slice a n c] w fun e w' => e = .returned (.tuple #[.int .i64 0, .int .i64 4]) ∧ w = w' := by
  have h0' : decide ((k : Int) < 1) = false := by simp; omega
  have h4 : decide (4 < (k : Int)) = false := by simp; omega
  have h5 : decide (180 < (n : Int)) = true := by simp; omega
  go_enter Tryz.func166, Tryz.ntmps166
  go_wp2_with fail
  go_ret2
  exact ⟨rfl, rfl⟩

inductive PutR (w w' : World) (s d : Nat) (D B : Nat → Nat) (recs : List Rec) (ob : Nat → Ob) (rt : Nat) (F : Nat → Prop) (k : Nat) (dat : List Nat) (e : Ending) : Prop
  | found (r : Nat) (hr : In r) (hl : liveO (ob r) = true) (hk : (ob r).kd = k) (hd : (ob r).dat = dat) (he : e = .returned (.tuple #[.int .i64 r, .int .i64 0])) (ho : Only (fun _ => False) w w')
  | full (hno : ∀ j, In j → liveO (ob j) = true → ¬ ((ob j).kd = k ∧ (ob j).dat = dat)) (hf : ∀ i, In i → (ob i).st ≠ 0) (he : e = .returned (.tuple #[.int .i64 0, .int .i64 5])) (ho : Only (fun _ => False) w w')
  | new (i : Nat) (L : List Nat) (hno : ∀ j, In j → liveO (ob j) = true → ¬ ((ob j).kd = k ∧ (ob j).dat = dat)) (hi : In i) (h0 : (ob i).st = 0) (hlow : ∀ j, In j → j < i → (ob j).st ≠ 0) (hL : L.length = nB dat.length) (hLb : ∀ b ∈ L, 1 ≤ b ∧ b < 145 ∧ ∀ j, In j → b ∉ (ob j).ch)
      (he : e = .returned (.tuple #[.int .i64 i, .int .i64 0])) (hs : OS w' s d (replayB D (newsOf k dat L L.length)) B (recs ++ newsOf k dat L L.length) (updT ob i ⟨1, k, dat, L⟩) rt (Ext F w w')) (ho : Only (fun k => k = s ∨ F k) w w')

def ExtBut (F : Nat → Prop) (w wr : World) (g : Nat) : Nat → Prop := fun y => Ext F w wr y ∧ y ≠ g
/-- What holds at each head of Put's loop. -/
structure PutI (w : World) (s d g : Nat) (tab : Nat → Ent) (hd us : Nat → Nat) (nf rt : Nat) (D B : Nat → Nat) (recs : List Rec) (F : Nat → Prop) (k : Nat) (dat L : List Nat) (i : Nat) (wr : World) : Prop where
  hs : SAt wr s d tab hd (markL us (L.take i) true) nf rt
  hv : DevAt wr d (replayB D (newsOf k dat L i)) B (recs ++ newsOf k dat L i) (ExtBut F w wr g)
  hg : Has wr g (p3 L) 210
  ho : Only (fun k => k = s ∨ F k) w wr

set_option maxRecDepth 100000 in
set_option maxHeartbeats 4000000 in
theorem put_any (h : OS w s d D B recs ob rt F) (k : Nat) (hk1 : 1 ≤ k) (hk4 : k ≤ 4) (dat : List Nat) (v : Value) (hdat : BytesAt w v dat.length (dF dat)) (hd180 : dat.length ≤ 180) (h8 : ∀ j, j < dat.length → dF dat j < 256) (hvs : ∀ y, v.ownBlock = some y → ¬ F y ∧ y ≠ s) (hrl : recs.length ≤ 900) :
    Calls Tryz.prog 166 #[.pointer (some ⟨s, 0, none⟩), .int .i64 k, v] w fun e w' => PutR w w' s d D B recs ob rt F k dat e := by
  obtain ⟨⟨tab, hd, us, nf, bk, hs, hi⟩, hv, hf⟩ := h
  have a0 : decide ((k : Int) < 1) = false := by simp; omega
  have a4 : decide (4 < (k : Int)) = false := by simp; omega
  have a5 : decide (180 < (dat.length : Int)) = false := by simp; omega
  have hsl := Has.lt hs
  have hFi := hv.inn
  have hhlt : hashN (dF dat) k dat.length < 4294967296 := hashN_lt _ _ (by omega) _
  have C1 := hide (ohash_any v dat.length (dF dat) k (by omega) h8 (by omega) hdat)
  have hb8 : hashN (dF dat) k dat.length % 8 < 8 := Nat.mod_lt _ (by omega)
  have C2 := hide (find_any hs hv k dat v hdat (hashN (dF dat) k dat.length) rfl hhlt ob (bk (hashN (dF dat) k dat.length % 8)) (hi.bucks.link _ hb8) (fun a ha => by
    have := (hi.bucks.mem _ hb8 a).1 ha
    exact hi.rows.held a this.1 (liveO_ne this.2.1)))
  have hhit : ∀ r, r ∈ bk (hashN (dF dat) k dat.length % 8) → Hit ob k dat r → In r ∧ liveO (ob r) = true := fun r hr _ => by
    have := (hi.bucks.mem _ hb8 r).1 hr
    exact ⟨this.1, this.2.1⟩
  have hnone : (∀ a ∈ bk (hashN (dF dat) k dat.length % 8), ¬ Hit ob k dat a) → ∀ j, In j → liveO (ob j) = true → ¬ ((ob j).kd = k ∧ (ob j).dat = dat) := by
    intro h1 j hj hl ⟨e1, e2⟩
    refine h1 j ((hi.bucks.mem _ hb8 j).2 ⟨hj, hl, ?_⟩) ⟨e1, e2⟩
    rw [(hi.rows.held j hj (liveO_ne hl)).hash, e1, e2]
  generalize hhash : hashN (dF dat) k dat.length = hsh at *
  have Hh := hide hhash.symm
  have Hhit := hide hhit
  have Hnone := hide hnone
  have Hi := hide hi
  have HS := hide hs
  have HV := hide hv
  have Hdat := hide hdat
  have Hlow := hide (lowId_spec hi.rows)
  obtain ⟨va, vc, rfl, _⟩ := hdat
  generalize hdl : dat.length = n at *
  have Hdl := hide hdl
  clear hhash hhit hnone hs hv hi hdl
  go_enter Tryz.func166, Tryz.ntmps166
  go_wp2_with fail
  refine (unhide C1).mono ?_
  rintro e w1 ⟨rfl, rfl⟩
  clear C1
  go_wp2_with fail
  refine (unhide C2).mono ?_
  rintro e w1 ⟨⟨r, rfl, hr⟩, ho1⟩
  clear C2
  by_cases hr0 : r = 0
  · subst hr0
    have hno := (unhide Hnone) (by
      rcases hr with ⟨_, h⟩ | ⟨h1, h2⟩
      · exact h
      · have := ((unhide Hhit) 0 h1 h2).1.1; omega)
    have Hno := hide hno
    clear hno hr
    have C3 := hide (lowestFree_any ((unhide HS).keep ho1 (fun h => h)))
    go_wp2_with fail
    refine (unhide C3).mono ?_
    rintro e w2 ⟨rfl, rfl⟩
    clear C3
    rcases unhide Hlow with ⟨hl0, hfull⟩ | ⟨hin, h0, hlow⟩
    · rw [hl0]
      have Hfull := hide hfull
      clear hfull hl0
      go_wp2_with fail
      go_ret2
      exact .full (unhide Hno) (unhide Hfull) rfl ho1
    · generalize lowId tab = i at *
      have hil : i < 49 := by have := hin.2; omega
      have hi1 : 1 ≤ i := hin.1
      have b0 : ((i : Int) == 0) = false := ne_intO (by omega)
      have hil' : (i : Int) < 49 := by omega
      have C4 := hide (oblocksOf_any n w1)
      have hn3 := nB_le n
      have C5 := hide (pick_any ((unhide HS).keep ho1 (fun h => h)) (unhide Hi).rows.words (nB n) hn3.2)
      have Hl := hide hlow
      clear hlow
      go_wp2_with fail
      refine (unhide C4).mono ?_
      rintro e w2 ⟨rfl, rfl⟩
      go_wp2_with fail
      refine (unhide C5).mono ?_
      rintro e w2 ⟨⟨L, rfl, hP⟩, ho2⟩
      have hLn := (unhide Hi).rows.room hin h0 hn3.2 hP
      have HP := hide hP
      have HLn := hide hLn
      rw [hLn]
      clear hP C4 C5
      have ho2' := ho1.trans ho2 (fun _ _ h => h)
      have hg0 := Has.new w2 (p3 L) 210
      have hI0 : PutI w s d w2.heap.size tab hd us nf rt D B recs F k dat L 0 (w2.alloc (.cells (p3 L) 210)) := by
        have ho3 := ho2'.alloc (.cells (p3 L) 210)
        refine ⟨by simpa [markL] using (unhide HS).keep ho3 (fun h => h), ?_, hg0, ho3.mono (fun _ _ h => h.elim)⟩
        have := (unhide HV).quiet ho3
        have e1 : replayB D (newsOf k dat L 0) = D := rfl
        have e2 : recs ++ newsOf k dat L 0 = recs := by simp [newsOf]
        rw [e1, e2]
        exact this.mono (fun y hy => ⟨.inl hy, fun e => by have := hFi y hy; have := ho2'.size; omega⟩) (fun y hy => Ext.in hFi ho3.size y hy.1)
      have HI0 := hide hI0
      have q0 := hg0.cell 0
      have q1 := hg0.cell 1
      have q2 := hg0.cell 2
      have gsz := ho2'.size
      have l9 : L.length ≤ 3 := by omega
      clear hI0 hg0 hLn
      generalize hnb : nB n = nb at *
      have Hnb := hide hnb
      clear hnb
      have c1 : decide ((nb : Int) < (nb : Int)) = false := by simp
      go_wp2_with fail
      go_loopw [14] (fun iv wr => ∃ t : Nat, t ≤ nb ∧ iv = .int .i64 t ∧ PutI w s d w2.heap.size tab hd us nf rt D B recs F k dat L t wr) (fun iv _ => (3 - intOf iv).toNat)
      case atStart => exact ⟨0, by omega, rfl, unhide HI0⟩
      case round =>
        clear HI0 q0 q1 q2
        obtain ⟨t, ht, rfl, hI⟩ := hrel
        have hwz := hI.ho.size
        have hgs : ¬ (w2.heap.size = s) := by omega
        have hgE : ¬ ExtBut F w wr w2.heap.size w2.heap.size := fun h => h.2 rfl
        have hgl := hI.hg.lt
        have hsE : ¬ ExtBut F w wr w2.heap.size s := fun h => by
          rcases h.1 with h | h
          · exact hf h
          · omega
        by_cases htn : t < nb
        · have a1 : decide ((t : Int) < (nb : Int)) = true := by simp; omega
          have hln := unhide HLn
          have hLt := (unhide HP).free _ (getD_mem (l := L) (i := t) (by omega))
          have hLt2 := hLt.2.1
          have hLtk : ∀ b ∈ L.take t, b < 145 := fun b hb => ((unhide HP).free b (List.mem_of_mem_take hb)).2.1
          have hoff : t * 60 ≤ n := by
            have := (nB_full n (by omega)).2 t (by rw [unhide Hnb]; exact htn)
            by_cases e : t = 0
            · omega
            · have := this e; omega
          have hfo : L.getD (t + 1) 0 < 145 := by
            by_cases e : t + 1 < L.length
            · exact ((unhide HP).free _ (getD_mem e)).2.1
            · rw [getD_out (by omega)]; omega
          have c6 := pack_any k (L.getD (t + 1) 0) n (t * 60) (dF dat) h8 (.slice va n vc) ((unhide Hdat).keep hI.ho (fun y hy e => by
            rcases e with e | e
            · exact (hvs y hy).2 e
            · exact (hvs y hy).1 e)) (by omega) hfo (by omega) hoff
          have e60 : ((t * 60 : Nat) : Int) = (t : Int) * 60 := by omega
          rw [e60, Nat.mul_comm t 60] at c6
          have C6 := hide c6
          have t3 : (t : Int) < 3 := by omega
          clear c6 e60
          have q1 := hI.hg.cell (t + 1)
          by_cases htn1 : t + 1 < nb
          · have a2 : decide ((t : Int) + 1 < (nb : Int)) = true := by simp; omega
            have t4 : (t : Int) + 1 < 3 := by omega
            rw [p3_get _ _ (by omega)] at q1
            generalize hfol : L.getD (t + 1) 0 = fol at *
            have Hfol := hide hfol
            clear hfol
            go_wp2_with fail
            refine (unhide C6).mono ?_
            rintro e w3 ⟨rfl, hb3, ho3⟩
            clear C6
            have hs3 := hI.hs.keep ho3 (fun h => h)
            have hv3 := hI.hv.quiet ho3
            have hg3 := hI.hg.keep ho3 (fun h => h)
            have cd := hs3.dev
            have cp := hg3.cell t
            rw [p3_get _ _ (by omega)] at cp
            have hfr : ¬ ExtBut F w wr w2.heap.size wr.heap.size := fun h => by
              rcases h.1 with h | h
              · have := hFi _ h; omega
              · omega
            have c7 := fun wx (hx : Only (fun _ => False) w3 wx) => dvwrite_in (hv3.quiet hx) (L.getD t 0) hLt2 _ (hb3.keep hx (fun h => h)) hfr (by rw [List.length_append, newsOf_len]; omega)
            have C7 := hide c7
            have HHs := hide hs3
            have HHg := hide hg3
            have HHb := hide hb3
            have HHv := hide hv3
            clear c7 hs3 hg3 hb3 hv3
            have Ho3 := hide ho3
            clear ho3
            generalize hbt : L.getD t 0 = bt at *
            have Hbt := hide hbt
            clear hbt
            go_wp2_with fail
            go_region_with (go_at_call 193; refine ((unhide C7) _ ?_).mono ?_; exact (Only.refl (fun _ => False) _).drew; rintro e w4 ⟨rfl, hv4, ho4⟩)
            all_goals
              have ho4' : Only (ExtBut F w wr w2.heap.size) w3 w4 := ((Only.refl (ExtBut F w wr w2.heap.size) w3).drew).trans ho4 (fun _ _ h => h)
              have hs4 := (unhide HHs).keep ho4' hsE
              have hg4 := (unhide HHg).keep ho4' hgE
              have cp4 := hg4.cell t
              rw [p3_get _ _ (by omega), unhide Hbt] at cp4
              have C8 := hide (mark_any hs4 bt hLt2 (markL_ok (unhide Hi).rows.words true _ hLtk) true)
              have Hg4 := hide hg4
              have Hv4 := hide hv4
              clear hs4 hg4 hv4
              go_wp2_with fail
              refine (unhide C8).mono ?_
              rintro e w5 ⟨rfl, hs5, ho5⟩
              go_wp2_with fail
              go_roundw
              case rel =>
                have z3 := (unhide Ho3).size
                have z4 := ho4'.size
                have z5 := ho5.size
                refine ⟨t + 1, by omega, by go_num, ⟨?_, ?_, ?_, ?_⟩⟩
                · rw [markL_take us L true t (by omega), unhide Hbt]; exact hs5
                · have := (unhide Hv4).keep ho5 (fun y hy e => by
                    subst e
                    rcases hy with hy | hy
                    · exact hsE hy
                    · have : y < (World.drew w3).heap.size := by simp; omega
                      omega)
                  rw [newsOf_succ, replayB_snoc, ← List.append_assoc, unhide Hfol]
                  rw [unhide Hdl, unhide Hbt]
                  refine this.mono ?_ (fun y hy => Ext.in hFi (by omega) y hy.1)
                  intro y hy
                  rcases hy with ⟨hy | hy, hyg⟩ | hy
                  · exact ⟨.inl hy, hyg⟩
                  · exact ⟨.inr ⟨hy.1, by omega⟩, hyg⟩
                  · have h1 := hy.1
                    have h2 := hy.2
                    simp at h1
                    exact ⟨.inr ⟨by omega, by omega⟩, by omega⟩
                · exact (unhide Hg4).keep ho5 hgs
                · refine ((hI.ho.trans (unhide Ho3) (fun _ _ h => h.elim)).trans ho4' ?_).trans ho5 (fun _ _ h => .inl h)
                  intro y hy h
                  rcases h.1 with h | h
                  · exact .inr h
                  · omega
              case measure => simp [intOf]; omega
          · have a2 : decide ((t : Int) + 1 < (nb : Int)) = false := by simp; omega
            have hfol : L.getD (t + 1) 0 = 0 := getD_out (by omega)
            rw [hfol] at C6
            have Hfol := hide hfol
            clear hfol q1
            go_wp2_with fail
            refine (unhide C6).mono ?_
            rintro e w3 ⟨rfl, hb3, ho3⟩
            clear C6
            have hs3 := hI.hs.keep ho3 (fun h => h)
            have hv3 := hI.hv.quiet ho3
            have hg3 := hI.hg.keep ho3 (fun h => h)
            have cd := hs3.dev
            have cp := hg3.cell t
            rw [p3_get _ _ (by omega)] at cp
            have hfr : ¬ ExtBut F w wr w2.heap.size wr.heap.size := fun h => by
              rcases h.1 with h | h
              · have := hFi _ h; omega
              · omega
            have c7 := fun wx (hx : Only (fun _ => False) w3 wx) => dvwrite_in (hv3.quiet hx) (L.getD t 0) hLt2 _ (hb3.keep hx (fun h => h)) hfr (by rw [List.length_append, newsOf_len]; omega)
            have C7 := hide c7
            have HHs := hide hs3
            have HHg := hide hg3
            have HHb := hide hb3
            have HHv := hide hv3
            clear c7 hs3 hg3 hb3 hv3
            have Ho3 := hide ho3
            clear ho3
            generalize hbt : L.getD t 0 = bt at *
            have Hbt := hide hbt
            clear hbt
            go_wp2_with fail
            go_region_with (go_at_call 193; refine ((unhide C7) _ ?_).mono ?_; exact (Only.refl (fun _ => False) _).drew; rintro e w4 ⟨rfl, hv4, ho4⟩)
            all_goals
              have ho4' : Only (ExtBut F w wr w2.heap.size) w3 w4 := ((Only.refl (ExtBut F w wr w2.heap.size) w3).drew).trans ho4 (fun _ _ h => h)
              have hs4 := (unhide HHs).keep ho4' hsE
              have hg4 := (unhide HHg).keep ho4' hgE
              have cp4 := hg4.cell t
              rw [p3_get _ _ (by omega), unhide Hbt] at cp4
              have C8 := hide (mark_any hs4 bt hLt2 (markL_ok (unhide Hi).rows.words true _ hLtk) true)
              have Hg4 := hide hg4
              have Hv4 := hide hv4
              clear hs4 hg4 hv4
              go_wp2_with fail
              refine (unhide C8).mono ?_
              rintro e w5 ⟨rfl, hs5, ho5⟩
              go_wp2_with fail
              go_roundw
              case rel =>
                have z3 := (unhide Ho3).size
                have z4 := ho4'.size
                have z5 := ho5.size
                refine ⟨t + 1, by omega, by go_num, ⟨?_, ?_, ?_, ?_⟩⟩
                · rw [markL_take us L true t (by omega), unhide Hbt]; exact hs5
                · have := (unhide Hv4).keep ho5 (fun y hy e => by
                    subst e
                    rcases hy with hy | hy
                    · exact hsE hy
                    · have : y < (World.drew w3).heap.size := by simp; omega
                      omega)
                  rw [newsOf_succ, replayB_snoc, ← List.append_assoc, unhide Hfol]
                  rw [unhide Hdl, unhide Hbt]
                  refine this.mono ?_ (fun y hy => Ext.in hFi (by omega) y hy.1)
                  intro y hy
                  rcases hy with ⟨hy | hy, hyg⟩ | hy
                  · exact ⟨.inl hy, hyg⟩
                  · exact ⟨.inr ⟨hy.1, by omega⟩, hyg⟩
                  · have h1 := hy.1
                    have h2 := hy.2
                    simp at h1
                    exact ⟨.inr ⟨by omega, by omega⟩, by omega⟩
                · exact (unhide Hg4).keep ho5 hgs
                · refine ((hI.ho.trans (unhide Ho3) (fun _ _ h => h.elim)).trans ho4' ?_).trans ho5 (fun _ _ h => .inl h)
                  intro y hy h
                  rcases h.1 with h | h
                  · exact .inr h
                  · omega
              case measure => simp [intOf]; omega
        · obtain rfl : t = nb := by omega
          have a1 : decide ((t : Int) < (t : Int)) = false := by simp
          have hln := unhide HLn
          have et : L.take t = L := List.take_of_length_le (by omega)
          have hs5 := hI.hs
          have hv5 := hI.hv
          rw [et] at hs5
          have k0 := hI.hg.cell 0
          rw [p3_get _ _ (by omega)] at k0
          have z0 := hs5.state i hil
          have z1 := hs5.ent i 1 hil (by omega)
          have z2 := hs5.ent i 2 hil (by omega)
          have z3 := hs5.ent i 3 hil (by omega)
          have z4 := hs5.ent i 4 hil (by omega)
          have z5 := hs5.ent i 5 hil (by omega)
          have z6 := hs5.nfree
          simp only [entCell] at z0 z1 z2 z3 z4 z5
          have hnf := (unhide Hi).rows.nfree
          have hnf1 : 1 ≤ nf := by
            have := cntTo_turn (p := isFree ob) (q := fun j => if j = i then false else isFree ob j) (j := i) (by unfold isFree; simp [h0]; omega) (by simp) (fun j hj => by simp [hj]) 49 hil
            unfold cntF at hnf
            omega
          have hnf2 : nf ≤ 48 := by have := cntF_le ob; omega
          have hp := (hs5.putEnt i hil ⟨1, k, n, L.getD 0 0, hsh, 0⟩).setNfree (nf - 1)
          have hop : Only (fun k => k = s) wr _ := (only6 (i := i) (Only.refl (fun k => k = s) wr) (fun _ => rfl) (.int .i64 ((1 : Nat) : Int)) (.int .i64 (k : Int)) (.int .i64 (n : Int)) (.int .i64 (L.getD 0 0 : Nat)) (.int .u32 (hsh : Int)) (.int .i64 ((0 : Nat) : Int))).setCell (p := ⟨s, 306, none⟩) (fun _ => rfl) (.int .i64 ((nf - 1 : Nat) : Int))
          have enf : ((nf - 1 : Nat) : Int) = (nf : Int) - 1 := by omega
          have hh4 : hsh < 4294967296 := hhlt
          have e1 : ((1 : Nat) : Int) = 1 := rfl
          have e0 : ((0 : Nat) : Int) = 0 := rfl
          have hpd := Has.drew hp
          rw [enf, e1, e0] at hpd hop
          have c9 := hang_any (w := World.drew _) hpd i hil (by rw [updT_same]; exact hh4)
          simp only [updT_same] at c9
          have C9 := hide c9
          have Hop := hide hop.drew
          clear e1 e0 hpd
          have hfin := (unhide Hi).put hin h0 k hk1 hk4 dat (by rw [unhide Hdl]; exact hd180) (by rw [unhide Hdl]; exact h8) (unhide Hno) L (by rw [unhide Hdl, unhide Hnb]; exact unhide HP) (by rw [unhide Hdl, unhide Hnb]; exact hln) hsh (by rw [unhide Hdl]; exact unhide Hh)
          rw [unhide Hdl] at hfin
          have Hfin := hide hfin
          have hrows := (unhide Hi).rows.used
          have Hlb : Hid (∀ b ∈ L, 1 ≤ b ∧ b < 145 ∧ ∀ j, In j → b ∉ (ob j).ch) := hide (fun b hb => by
            obtain ⟨h1, h2, h3⟩ := (unhide HP).free b hb
            refine ⟨h1, h2, fun j hj hm => ?_⟩
            rw [(hrows b h2).2 ⟨j, hj, hm⟩] at h3
            cases h3)
          have Hv5 := hide hv5
          have HoI := hide hI.ho
          clear hI hs5 hv5 hp hop hfin hrows c9 enf hnf
          generalize hl0 : L.getD 0 0 = l0 at *
          generalize tab i = te at *
          go_wp2_with fail
          go_region
          all_goals
            go_wp2_with fail
            refine (unhide C9).mono ?_
            rintro e w6 ⟨rfl, hs6, ho6⟩
            go_wp2_with fail
            go_ret2
            have ho6' : Only (fun k => k = s) wr w6 := (unhide Hop).trans ho6 (fun _ _ h => h)
            have z6 := ho6'.size
            refine .new i L (unhide Hno) hin h0 (unhide Hl) (by rw [unhide Hdl, unhide Hnb]; exact hln) (unhide Hlb) rfl ⟨⟨_, _, _, _, _, hs6, unhide Hfin⟩, ?_, ?_⟩ ?_
            · rw [hln]
              have := (unhide Hv5).keep ho6' (fun y hy e => hsE (e ▸ hy))
              refine this.mono ?_ (fun y hy => Ext.in hFi (by omega) y hy)
              intro y hy
              rcases hy.1 with h | h
              · exact .inl h
              · exact .inr ⟨h.1, by omega⟩
            · intro h
              rcases h with h | h
              · exact hf h
              · omega
            · exact (unhide HoI).trans ho6' (fun _ _ h => .inl h)
  · obtain ⟨hr1, hr2⟩ : r ∈ bk (hsh % 8) ∧ Hit ob k dat r := by
      rcases hr with ⟨h, _⟩ | h
      · exact absurd h hr0
      · exact h
    obtain ⟨h1, h2⟩ := (unhide Hhit) r hr1 hr2
    have b0 : ((r : Int) != 0) = true := by simp; omega
    clear hr
    go_wp2_with fail
    go_ret2
    exact .found r h1 h2 hr2.1 hr2.2 rfl ho1
end
end Go.Proofs.Qxb6500417aGreat
