/-
  OWN WORK. THE INDEX: put.
-/
import Derived.Test.Qxb6500418aIPlant
namespace Go.Proofs.Qxb6500418a
open Go.RowKit Go.PlainAid
set_option linter.unusedSimpArgs false
set_option linter.unusedVariables false

theorem Lay.setFile {P P' : Nat → Nd} {K : Fo} {n d dd : Str} {m mm : Int} {c : Nat} : ∀ {p : Nat}, Lay P K p → K.hit n = .file c dd mm → K.ids.Nodup → P' c = ⟨n, 0, (P c).next, true, d, m, d.length, hashL d⟩ → (∀ x ∈ K.ids, x ≠ c → P' x = P x) → Lay P' (K.setFile n d m) p := by
  induction K with
  | nil => intro p _ h; cases h
  | file c' n' d' m' r ih =>
    intro p hl h hn hc he
    simp only [Fo.hit] at h
    obtain ⟨h1, h2, h3, h4⟩ := hl
    simp only [Fo.ids, List.nodup_cons] at hn
    simp only [Fo.setFile]
    by_cases e : n' = n
    · rw [if_pos e] at h
      cases h
      rw [if_pos e]
      refine ⟨h1, h2, ?_, ?_⟩
      · rw [hc, e]
      · rw [hc]
        exact h4.congr (fun x hx => he x (by simp [Fo.ids, hx]) (fun e2 => hn.1 (e2 ▸ hx)))
    · rw [if_neg e] at h
      rw [if_neg e]
      have hcr := hit_file_id h
      have e1 : P' c' = P c' := he c' (by simp [Fo.ids]) (fun e2 => hn.1 (e2 ▸ hcr))
      refine ⟨h1, h2, by rw [e1]; exact h3, ?_⟩
      rw [e1]
      exact ih h4 h hn.2 hc (fun x hx => he x (by simp [Fo.ids, hx]))
  | dir c' n' k' r ihk ih =>
    intro p hl h hn hc he
    simp only [Fo.hit] at h
    obtain ⟨h1, h2, h3, h4, h5⟩ := hl
    simp only [Fo.ids, List.nodup_cons] at hn
    have hnd := List.nodup_append.1 hn.2
    simp only [Fo.setFile]
    by_cases e : n' = n
    · rw [if_pos e] at h; cases h
    · rw [if_neg e] at h
      have hcr := hit_file_id h
      have e1 : P' c' = P c' := he c' (by simp [Fo.ids]) (fun e2 => hn.1 (by rw [e2]; simp [hcr]))
      refine ⟨h1, h2, by rw [e1]; exact h3, ?_, ?_⟩
      · rw [e1]
        exact h4.congr (fun x hx => he x (by simp [Fo.ids, hx]) (fun e2 => hnd.2.2 x hx c hcr e2))
      · rw [e1]
        exact ih h5 h hnd.2.1 hc (fun x hx => he x (by simp [Fo.ids, hx]))
theorem IInv.setFile {P : Nat → Nd} {fr : Nat} {G K : Fo} {fl : List Nat} {b : List Str} {n dd d : Str} {mm m : Int} {dn c : Nat} (h : IInv P fr G fl) (hat : dirAt b 0 G = some (dn, K)) (hh : K.hit n = .file c dd mm) :
    IInv (updT P c { P c with data := d, mode := m, size := d.length, hash := hashL d }) fr (upd b (Fo.setFile n d m) G) fl := by
  obtain ⟨hI, hf, hnd, hall⟩ := h
  have hsub := dirAt_ids hat
  have hn0 := hI.nd0
  have hdK := List.nodup_cons.1 (hsub.nodup hn0)
  have hcK := hit_file_id hh
  have hlK := Lay.dirAt hI.lay hat
  have hpc := hlK.hit_file hh
  have hc49 := hlK.rng c hcK
  have hdc : dn ≠ c := fun e => hdK.1 (e ▸ hcK)
  have hcG : c ∈ G.ids := by
    have := hsub.subset (by simp [hcK] : c ∈ dn :: K.ids)
    simp at this
    rcases this with e | e
    · omega
    · exact e
  have hids : (upd b (Fo.setFile n d m) G).ids = G.ids := upd_same hat setFile_shape.2.2
  have hnd' := List.nodup_append.1 hnd
  refine ⟨⟨?_, ?_, by rw [hids]; exact hI.nd⟩, ?_, by rw [hids]; exact hnd, fun y h1 h2 => by rw [hids]; exact hall y h1 h2⟩
  · rw [updT_other _ _ _ _ (by omega)]; exact hI.root
  · refine Lay.upd hI.lay hat hn0 (fun y hy h1 h2 => updT_other _ _ _ _ (fun e => h2 (e ▸ hcK))) (by rw [updT_other _ _ _ _ hdc]) ?_
    rw [updT_other _ _ _ _ hdc]
    refine Lay.setFile hlK hh hdK.2 ?_ (fun y hy hne => updT_other _ _ _ _ hne)
    rw [updT_same, hpc]
  · exact hf.congr (fun y hy => updT_other _ _ _ _ (fun e => hnd'.2.2 c hcG y hy e.symm))

theorem IAt.setData {w : World} {x : Nat} {P : Nat → Nd} {fr fi : Nat} (h : IAt w x P fr fi) (i : Nat) (hi : i < 49) (v : ByteArray) : IAt (w.setCell ⟨x, i * 8 + 4, none⟩ (.string v)) x (updT P i { P i with data := ls v }) fr fi :=
  h.set i 4 hi (by omega) _ _ (by show Value.string (st (ls v)) = _; rw [st_ls]) (fun g hg hne => by
    match g, hg with
    | 0, _ => rfl
    | 1, _ => rfl
    | 2, _ => rfl
    | 3, _ => rfl
    | 4, _ => exact absurd rfl hne
    | 5, _ => rfl
    | 6, _ => rfl
    | 7, _ => rfl)
theorem IAt.setMode {w : World} {x : Nat} {P : Nat → Nd} {fr fi : Nat} (h : IAt w x P fr fi) (i : Nat) (hi : i < 49) (v : Int) : IAt (w.setCell ⟨x, i * 8 + 5, none⟩ (.int .i64 v)) x (updT P i { P i with mode := v }) fr fi :=
  h.set i 5 hi (by omega) _ _ rfl (fun g hg hne => by
    match g, hg with
    | 0, _ => rfl
    | 1, _ => rfl
    | 2, _ => rfl
    | 3, _ => rfl
    | 4, _ => rfl
    | 5, _ => exact absurd rfl hne
    | 6, _ => rfl
    | 7, _ => rfl)
theorem IAt.setSize {w : World} {x : Nat} {P : Nat → Nd} {fr fi : Nat} (h : IAt w x P fr fi) (i : Nat) (hi : i < 49) (v : Nat) : IAt (w.setCell ⟨x, i * 8 + 6, none⟩ (.int .i64 (v : Int))) x (updT P i { P i with size := v }) fr fi :=
  h.set i 6 hi (by omega) _ _ rfl (fun g hg hne => by
    match g, hg with
    | 0, _ => rfl
    | 1, _ => rfl
    | 2, _ => rfl
    | 3, _ => rfl
    | 4, _ => rfl
    | 5, _ => rfl
    | 6, _ => exact absurd rfl hne
    | 7, _ => rfl)
theorem IAt.setHash {w : World} {x : Nat} {P : Nat → Nd} {fr fi : Nat} (h : IAt w x P fr fi) (i : Nat) (hi : i < 49) (v : Nat) : IAt (w.setCell ⟨x, i * 8 + 7, none⟩ (.int .i64 (v : Int))) x (updT P i { P i with hash := v }) fr fi :=
  h.set i 7 hi (by omega) _ _ rfl (fun g hg hne => by
    match g, hg with
    | 0, _ => rfl
    | 1, _ => rfl
    | 2, _ => rfl
    | 3, _ => rfl
    | 4, _ => rfl
    | 5, _ => rfl
    | 6, _ => rfl
    | 7, _ => exact absurd rfl hne)
theorem mapKid_full' {F : Fo} (hf : F.Full) {x : Str} {c : Nat} {k : Fo} {g : Fo → Fo} (hh : F.hit x = .dir c k) (hg : (g k).Full) (hne : g k ≠ .nil) : (F.mapKid x g).Full := by
  induction F with
  | nil => trivial
  | file c2 n2 d2 m2 r ih =>
    simp only [Fo.hit] at hh
    by_cases e : n2 = x
    · rw [if_pos e] at hh; cases hh
    · rw [if_neg e] at hh
      exact ih hf hh
  | dir c2 n2 k2 r ihk ih =>
    simp only [Fo.hit] at hh
    simp only [Fo.mapKid]
    by_cases e : n2 = x
    · rw [if_pos e] at hh
      cases hh
      rw [if_pos e]; exact ⟨hne, hg, hf.2.2⟩
    · rw [if_neg e] at hh
      rw [if_neg e]; exact ⟨hf.1, hf.2.1, ih hf.2.2 hh⟩
theorem upd_full : ∀ {a : List Str} {g : Fo → Fo} {d0 d : Nat} {F K : Fo}, F.Full → dirAt a d0 F = some (d, K) → (K.Full → (g K).Full) → (K ≠ .nil → g K ≠ .nil) → (upd a g F).Full
  | [], g, d0, d, F, K, hf, h, hg, _ => by cases h; exact hg hf
  | n :: a, g, d0, d, F, K, hf, h, hg, hne => by
    obtain ⟨c, k, hh, h'⟩ := dirAt_cons h
    obtain ⟨kf, kn⟩ := hit_dir_full hf hh
    refine mapKid_full' hf hh (upd_full kf h' hg hne) ?_
    cases a with
    | nil => cases h'; exact hne kn
    | cons n2 a2 => exact mapKid_ne kn

section
variable {w : World} {x : Nat} {P : Nat → Nd} {fr fi : Nat} {fl : List Nat} {F : Fo}
/-- What stands behind a row laid in. -/
structure PutOk (F : Fo) (f : Fl) (P : Nat → Nd) (fr : Nat) (G : Fo) (fl : List Nat) : Prop where
  inv : IInv P fr G fl
  wf : G.Wf
  full : G.Full
  sh : G.Short
  lst : G.gather [] = withL (F.gather []) f
theorem Pl.put {P' : Nat → Nd} {fr' fi' : Nat} {fl' : List Nat} {G : Fo} {ps : List Str} {c : Nat} {new : Bool} (hw : F.Wf) (h : Pl P' fr' fi' fl' G F ps ps [] c fi new) (hne : ps ≠ []) (hn : NamesOk ps) (d : Str) (m : Int) :
    1 ≤ c ∧ c < 49 ∧ fi' = fi + (if new = true then 1 else 0) ∧ ∃ G', PutOk F (mkFl (joinP ps) d m) (updT P' c { P' c with data := d, mode := m, size := d.length, hash := hashL d }) fr' G' fl' := by
  obtain ⟨h1, h2, h3, h4, h5, h6⟩ := h
  rcases h6 with ⟨e, _⟩ | ⟨_, hfull, hfi, b, n, dn, K, dd, mm, hps, hat, hh⟩
  · exact absurd rfl e
  · have hKw := dirAt_wf h2 hat
    have hlK := Lay.dirAt h1.tr.lay hat
    have hc := hlK.rng c (hit_file_id hh)
    refine ⟨hc.1, hc.2, hfi, upd b (Fo.setFile n d m) G, h1.setFile hat hh, upd_wf h2 hat (setFile_wf hKw), ?_, Short.upd h3 hat (Short.setFile (Short.dirAt h3 hat)), ?_⟩
    · exact upd_full hfull hat (fun hK => setFile_full hK) (fun hK => setFile_ne hK)
    · have hw2 := upd_wf (g := Fo.setFile n d m) h2 hat (setFile_wf hKw)
      refine set_law hw hw2 hne hn d m ?_ (fun rs hrs => ?_)
      · have := (upd_leaf (g := Fo.setFile n d m) ps hat).1 [n] (by simp) hps
        rw [this, setFile_leaf hh, if_pos rfl]
      · rw [← h5 rs hrs]
        obtain ⟨u1, u2⟩ := upd_leaf (g := Fo.setFile n d m) rs hat
        by_cases hex : ∃ us, us ≠ [] ∧ rs = b ++ us
        · obtain ⟨us, hus, rfl⟩ := hex
          rw [u1 us hus rfl, setFile_leaf hh, leaf_dirAt hat hus, if_neg]
          intro e
          exact hrs (by rw [hps, e])
        · exact u2 (fun us hus e => hex ⟨us, hus, e⟩)

set_option maxRecDepth 100000 in
set_option maxHeartbeats 4000000 in
theorem iput_any (h : IAt w x P fr fi) (hv : IInv P fr F fl) (hw : F.Wf) (hsh : F.Short) (hfu : F.Full) (f : Fl) (ps : List Str) (hp : ls f.path = joinP ps) (hne : ps ≠ []) (hn : NamesOk ps) (hsz : f.path.size ≤ 12) (hdz : f.data.size ≤ 1000) (hcl : ∀ c, look ps F ≠ .clash c) (new : Bool) (hnew : look ps F = .new ↔ new = true) (hroom : new = true → ps.length ≤ fl.length) (hfi : fi ≤ 1000) (fi2 : Nat) (hfi2 : fi2 = fi + (if new = true then 1 else 0)) :
    Calls Try.prog 42 #[.pointer (some ⟨x, 0, none⟩), .agg #[.string f.path, .string f.data, .int .i64 f.mode]] w fun e w' => e = .returned (.tuple #[]) ∧ (∃ P' fr' G fl', IAt w' x P' fr' fi2 ∧ PutOk F f P' fr' G fl') ∧ Only (fun k => k = x) w w' := by
  have hxl := h.lt
  have o0 : Only (fun _ => False) w (w.alloc (.cells #[.string f.path, .string f.data, .int .i64 f.mode] 40)) := (Only.refl _ w).alloc _
  have r0 := Has.new w #[.string f.path, .string f.data, .int .i64 f.mode] 40
  have hx : ∃ bx, bx = w.heap.size := ⟨_, rfl⟩
  obtain ⟨bx, hbx⟩ := hx
  have hbx1 : w.heap.size ≤ bx := by omega
  have hxb : x ≠ bx := by omega
  have hbxx : bx ≠ x := by omega
  rw [← hbx] at r0
  have q0 := r0.cell 0
  have C1 := hide (plant_any (h.keep o0 (fun h => h)) hv hw hsh hfu f.path ps hp hne hn hsz hcl new hnew hroom hfi)
  have Hw := hide hw
  have Hn := hide hn
  have Hne := hide hne
  have Hp := hide hp
  have Hfi2 := hide hfi2
  clear h hv hw hsh hfu hp hne hn hcl hnew hroom hfi2
  go_enter Try.func42, Try.ntmps42
  go_wp2_with fail
  rw [← hbx]
  have Hbx := hide hbx
  clear hbx
  refine (unhide C1).mono ?_
  rintro e w2 ⟨c, P', fr', fi', fl', G, rfl, h2, hPl, ho2⟩
  obtain ⟨hc1, hc49, hfi', G', hok⟩ := hPl.put (unhide Hw) (unhide Hne) (unhide Hn) (ls f.data) f.mode
  have hmk : mkFl (joinP ps) (ls f.data) f.mode = f := by
    obtain ⟨fp, fd, fm⟩ := f
    unfold mkFl
    have e1 : (⟨(joinP ps).toArray⟩ : ByteArray) = fp := ls_inj (by rw [← unhide Hp]; simp [ls])
    have e2 : (⟨(ls fd).toArray⟩ : ByteArray) = fd := st_ls fd
    rw [e1, e2]
  rw [hmk] at hok
  rw [hfi', ← unhide Hfi2] at h2
  have r2 := r0.keep ho2 hbxx
  have o2 : Only (fun k => k = x) w w2 := (o0.mono (fun _ _ h => h.elim)).trans ho2 (fun _ _ h => h)
  have c1 : (c : Int) < 49 := by omega
  have hx2 := h2.lt
  have hb2 := r2.lt
  clear C1 hPl q0 r0 hmk hfi'
  have b0 := r2.cell 0
  have b1 := r2.cell 1
  have b2 := r2.cell 2
  have z4 := (h2.all c hc49).2.2.2.2.1
  go_upto_region 2 with fail
  go_region
  have o_w2 := o2
  have r_w2 := r2
  have h3 := h2.setData c hc49 f.data
  have o_w3 : Only (fun k => k = x) w (w2.setCell ⟨x, c * 8 + 4, none⟩ (.string f.data)).drew := (o_w2.setCell (p := ⟨x, c * 8 + 4, none⟩) (fun _ => rfl) _).drew
  have r_w3 : Has (w2.setCell ⟨x, c * 8 + 4, none⟩ (.string f.data)).drew bx _ 40 := (r_w2.setCell_other (p := ⟨x, c * 8 + 4, none⟩) hbxx (.string f.data)).drew
  have h3 : IAt (w2.setCell ⟨x, c * 8 + 4, none⟩ (.string f.data)).drew x _ fr' fi2 := h3
  generalize (w2.setCell ⟨x, c * 8 + 4, none⟩ (.string f.data)).drew = w3 at *
  clear z4 b0 b1 b2 h2 o_w2 r_w2 o2 r2
  have hx3 := h3.lt
  have hb3 := r_w3.lt
  have b2 := r_w3.cell 2
  have z5 := (h3.all c hc49).2.2.2.2.2.1
  rw [updT_same] at z5
  go_upto_region 3 with fail
  go_region
  have h4 := h3.setMode c hc49 f.mode
  have o_w4 : Only (fun k => k = x) w (w3.setCell ⟨x, c * 8 + 5, none⟩ (.int .i64 f.mode)).drew := (o_w3.setCell (p := ⟨x, c * 8 + 5, none⟩) (fun _ => rfl) _).drew
  have r_w4 : Has (w3.setCell ⟨x, c * 8 + 5, none⟩ (.int .i64 f.mode)).drew bx _ 40 := (r_w3.setCell_other (p := ⟨x, c * 8 + 5, none⟩) hbxx (.int .i64 f.mode)).drew
  have h4 : IAt (w3.setCell ⟨x, c * 8 + 5, none⟩ (.int .i64 f.mode)).drew x _ fr' fi2 := h4
  generalize (w3.setCell ⟨x, c * 8 + 5, none⟩ (.int .i64 f.mode)).drew = w4 at *
  clear z5 b2 h3 o_w3 r_w3
  have hx4 := h4.lt
  have hb4 := r_w4.lt
  have b1 := r_w4.cell 1
  have z6 := (h4.all c hc49).2.2.2.2.2.2.1
  simp only [updT_same] at z6
  go_upto_region 4 with fail
  go_region
  have h5 := h4.setSize c hc49 f.data.size
  have o_w5 : Only (fun k => k = x) w (w4.setCell ⟨x, c * 8 + 6, none⟩ (.int .i64 (f.data.size : Int))).drew := (o_w4.setCell (p := ⟨x, c * 8 + 6, none⟩) (fun _ => rfl) _).drew
  have r_w5 : Has (w4.setCell ⟨x, c * 8 + 6, none⟩ (.int .i64 (f.data.size : Int))).drew bx _ 40 := (r_w4.setCell_other (p := ⟨x, c * 8 + 6, none⟩) hbxx (.int .i64 (f.data.size : Int))).drew
  have h5 : IAt (w4.setCell ⟨x, c * 8 + 6, none⟩ (.int .i64 (f.data.size : Int))).drew x _ fr' fi2 := h5
  generalize (w4.setCell ⟨x, c * 8 + 6, none⟩ (.int .i64 (f.data.size : Int))).drew = w5 at *
  clear z6 b1 h4 o_w4 r_w4
  have hx5 := h5.lt
  have hb5 := r_w5.lt
  have b1 := r_w5.cell 1
  have z7 := (h5.all c hc49).2.2.2.2.2.2.2
  simp only [updT_same] at z7
  have C2 := hide (fun (wx : World) => hashOf_any f.data (by omega) wx)
  have h6 := h5.setHash c hc49 (hashL (ls f.data))
  have o6 : Only (fun k => k = x) w (w5.setCell ⟨x, c * 8 + 7, none⟩ (.int .i64 (hashL (ls f.data) : Nat))).drew := (o_w5.setCell (p := ⟨x, c * 8 + 7, none⟩) (fun _ => rfl) _).drew
  simp only [updT_same, updT_updT] at h6
  have H6 : Hid (IAt (w5.setCell ⟨x, c * 8 + 7, none⟩ (.int .i64 (hashL (ls f.data) : Nat))).drew x (updT P' c { P' c with data := ls f.data, mode := f.mode, size := (ls f.data).length, hash := hashL (ls f.data) }) fr' fi2) := by
    have e : f.data.size = (ls f.data).length := (ls_len _).symm
    rw [e] at h6
    exact hide h6
  have HO := hide o6
  have Hok := hide hok
  clear h5 h6 o6 o_w5 r_w5 hok
  generalize hashL (ls f.data) = hsh at *
  go_upto_region 5 with fail
  go_region_with (go_at_call 53; refine ((unhide C2) _).mono ?_; rintro e w6 ⟨rfl, rfl⟩)
  all_goals
    go_wp2_with fail
    go_end0
    exact ⟨rfl, ⟨_, fr', G', fl', unhide H6, unhide Hok⟩, unhide HO⟩
end
end Go.Proofs.Qxb6500418a
