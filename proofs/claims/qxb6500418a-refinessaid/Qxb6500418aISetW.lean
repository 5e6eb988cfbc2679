/-
  OWN WORK. THE INDEX: Set, Del's and Get's look; the walk of Set.
-/
import Derived.Test.Qxb6500418aISet
namespace Go.Proofs.Qxb6500418a
open Go.RowKit Go.PlainAid
set_option linter.unusedSimpArgs false
set_option linter.unusedVariables false

/-- What looking tells of the list. -/
theorem look_list {F : Fo} {L : List Fl} (hw : F.Wf) (hf : F.Full) (hL : F.gather [] = L) {p : ByteArray} {ps : List Str} (hp : ls p = joinP ps) (hne : ps ≠ []) (hn : NamesOk ps) :
    ((∃ c, look ps F = .clash c) ↔ L.any (fun g => clashB (ls g.path) (ls p)) = true) ∧ (look ps F = .new ↔ (L.any (fun g => clashB (ls g.path) (ls p)) = false ∧ findI L p = -1)) ∧
    (∀ c d m, look ps F = .file c d m → mkFl (joinP ps) d m ∈ L) ∧ ((∃ c, look ps F = .clash c) → findI L p = -1) := by
  obtain ⟨t1, t2, t3, t4⟩ := look_tells hw hf hne hn
  rw [hL] at t1 t2 t3 t4
  have hany : L.any (fun g => clashB (ls g.path) (ls p)) = true ↔ ∃ f ∈ L, clashB (pth f) (joinP ps) = true := by
    rw [List.any_eq_true, hp]
    rfl
  have hnone : (∀ f ∈ L, clashB (pth f) (joinP ps) = false) → L.any (fun g => clashB (ls g.path) (ls p)) = false := by
    intro h
    cases hb : L.any (fun g => clashB (ls g.path) (ls p)) with
    | false => rfl
    | true =>
      obtain ⟨f, hf1, hf2⟩ := hany.1 hb
      rw [h f hf1] at hf2; cases hf2
  have hfi : findI L p = -1 ↔ ∀ g ∈ L, pth g ≠ joinP ps := by rw [findI_iff, hp]
  refine ⟨⟨fun ⟨c, h⟩ => hany.2 (t2 c h), fun h => ?_⟩, ⟨fun h => ⟨hnone (t3 h).1, hfi.2 (t3 h).2⟩, fun ⟨h1, h2⟩ => ?_⟩, fun c d m h => (t1 c d m h).2, fun ⟨c, h⟩ => hfi.2 (t4 c h)⟩
  · cases hl : look ps F with
    | clash c => exact ⟨c, rfl⟩
    | new => rw [hnone (t3 hl).1] at h; cases h
    | file c d m => rw [hnone (t1 c d m hl).1] at h; cases h
  · cases hl : look ps F with
    | new => rfl
    | clash c => rw [hany.2 (t2 c hl)] at h1; cases h1
    | file c d m =>
      exfalso
      have := hfi.1 h2 _ (t1 c d m hl).2
      rw [pth_mk] at this
      exact this rfl

theorem look_id : ∀ {ps : List Str} {F : Fo} {c : Nat} {d : Str} {m : Int}, look ps F = .file c d m → c ∈ F.ids
  | [], F, c, d, m, h => by cases h
  | n :: ps, F, c, d, m, h => by
    rw [look_hit] at h
    cases hh : F.hit n with
    | none => rw [hh] at h; cases h
    | file c' d' m' =>
      rw [hh] at h
      by_cases e : ps = []
      · simp [e] at h
        rw [← h.1]
        exact hit_file_id hh
      · simp [e] at h
    | dir c' k =>
      rw [hh] at h
      by_cases e : ps = []
      · simp [e] at h
      · simp [e] at h
        exact (hit_ids hh).subset (List.mem_cons_of_mem _ (look_id h))
/-- The index behind a row laid in. -/
theorem PutOk.ix {w : World} {x : Nat} {F G : Fo} {f : Fl} {P : Nat → Nd} {fr fi2 : Nat} {fl : List Nat} {L : List Fl} (h : PutOk F f P fr G fl) (hA : IAt w x P fr fi2) (hL : F.gather [] = L) (hfi : fi2 = (withL L f).length) (h8 : fi2 ≤ 8) (hs : L.Pairwise (fun a b => bl (pth a) (pth b) = true)) (hgd : ∀ f ∈ L, goodB (pth f) = true ∧ 0 ≤ f.mode ∧ f.mode ≤ 3 ∧ f.data.size ≤ 180) (hf : goodB (pth f) = true ∧ 0 ≤ f.mode ∧ f.mode ≤ 3 ∧ f.data.size ≤ 180) : IX w x (withL L f) := by
  refine ⟨⟨P, fr, G, fl, by rw [← hfi]; exact hA, h.inv, h.wf, h.full, h.sh, by rw [h.lst, hL]⟩, by rw [← hfi]; exact h8, fun g hg => ?_⟩
  rcases (withL_mem hs g).1 hg with rfl | ⟨h1, _⟩
  · exact hf
  · exact hgd g h1

section
variable {w : World} {x : Nat} {L : List Fl}
set_option maxRecDepth 100000 in
set_option maxHeartbeats 4000000 in
theorem iset_any (h : IX w x L) (f : Fl) :
    Calls Try.prog 20 #[.pointer (some ⟨x, 0, none⟩), .agg #[.string f.path, .string f.data, .int .i64 f.mode]] w fun e w' => e = .returned (.int .i64 (setErr L f : Nat)) ∧ IX w' x (setL L f) ∧ Only (fun k => k = x) w w' := by
  have hxl := h.lt
  have o1 : Only (fun _ => False) w (w.alloc (.cells #[.string f.path, .string f.data, .int .i64 f.mode] 40)) := (Only.refl _ w).alloc _
  have o1x : Only (fun k => k = x) w (w.alloc (.cells #[.string f.path, .string f.data, .int .i64 f.mode] 40)) := o1.mono (fun _ _ h => h.elim)
  have r0 := Has.new w #[.string f.path, .string f.data, .int .i64 f.mode] 40
  have q0 : (w.alloc (.cells #[.string f.path, .string f.data, .int .i64 f.mode] 40)).cell? ⟨w.heap.size, 0, none⟩ = some (.string f.path) := r0.cell 0
  have q1 : (w.alloc (.cells #[.string f.path, .string f.data, .int .i64 f.mode] 40)).cell? ⟨w.heap.size, 1, none⟩ = some (.string f.data) := r0.cell 1
  have q2 : (w.alloc (.cells #[.string f.path, .string f.data, .int .i64 f.mode] 40)).cell? ⟨w.heap.size, 2, none⟩ = some (.int .i64 f.mode) := r0.cell 2
  have h1 := h.keep o1 (fun h => h)
  have C1 := goodPath_any f.path (w.alloc (.cells #[.string f.path, .string f.data, .int .i64 f.mode] 40))
  have H1 := hide h1
  unfold setL
  cases hg : goodB (ls f.path) with
  | false =>
    have he : setErr L f = 9 := by unfold setErr; rw [hg, if_pos rfl]
    rw [he, if_neg (by omega)]
    rw [hg] at C1
    have C1 := hide C1
    clear hg he h1
    go_enter Try.func20, Try.ntmps20
    go_wp2_with fail
    refine (unhide C1).mono ?_
    rintro e w' ⟨rfl, rfl⟩
    go_wp2_with fail
    go_ret
    exact ⟨rfl, unhide H1, o1x⟩
  | true =>
    rw [hg] at C1
    have C1 := hide C1
    have hp12 := (goodB_size hg).2
    by_cases hm : f.mode < 0 ∨ 3 < f.mode
    · have he : setErr L f = 10 := by unfold setErr; rw [hg, if_neg (by simp), if_pos hm]
      rw [he, if_neg (by omega)]
      by_cases h0 : f.mode < 0
      · have a1 : decide (f.mode < 0) = true := by simpa using h0
        clear hm h0 hg he h1
        go_enter Try.func20, Try.ntmps20
        go_wp2_with fail
        refine (unhide C1).mono ?_
        rintro e w' ⟨rfl, rfl⟩
        go_wp2_with fail
        go_ret
        exact ⟨rfl, unhide H1, o1x⟩
      · have a1 : decide (f.mode < 0) = false := by simpa using h0
        have a2 : decide (3 < f.mode) = true := by simp; omega
        clear hm h0 hg he h1
        go_enter Try.func20, Try.ntmps20
        go_wp2_with fail
        refine (unhide C1).mono ?_
        rintro e w' ⟨rfl, rfl⟩
        go_wp2_with fail
        go_ret
        exact ⟨rfl, unhide H1, o1x⟩
    · have a1 : decide (f.mode < 0) = false := by simp; omega
      have a2 : decide (3 < f.mode) = false := by simp; omega
      by_cases hs : 180 < f.data.size
      · have he : setErr L f = 4 := by unfold setErr; rw [hg, if_neg (by simp), if_neg hm, if_pos hs]
        rw [he, if_neg (by omega)]
        have a3 : decide ((180 : Int) < (f.data.size : Int)) = true := by simp; omega
        clear hm hg he h1
        go_enter Try.func20, Try.ntmps20
        go_wp2_with fail
        refine (unhide C1).mono ?_
        rintro e w' ⟨rfl, rfl⟩
        go_wp2_with fail
        go_ret
        exact ⟨rfl, unhide H1, o1x⟩
      · have a3 : decide ((180 : Int) < (f.data.size : Int)) = false := by simp; omega
        have he : setErr L f = if L.any (fun g => clashB (ls g.path) (ls f.path)) = true then 12 else if findI L f.path = -1 ∧ 8 ≤ L.length then 8 else 0 := by
          unfold setErr; rw [hg, if_neg (by simp), if_neg hm, if_neg hs]
        obtain ⟨ps, hne, hn, hp⟩ := good_parts hg
        obtain ⟨⟨P, fr, F, fl, hA, hv, hw, hfu, hsh, hL⟩, hcnt, hgd⟩ := h1
        obtain ⟨k1, k2, k3, k4⟩ := look_list hw hfu hL hp hne hn
        have C2 := probe_any hA hv.tr f.path ps hp hne hn (by omega)
        have hbx : ∃ bx, bx = w.heap.size := ⟨_, rfl⟩
        obtain ⟨bx, hbx⟩ := hbx
        have hbx1 : w.heap.size ≤ bx := by omega
        have hbxx : bx ≠ x := by omega
        have hxb : x ≠ bx := by omega
        rw [← hbx] at q0 q1 q2 r0
        have hs1 : bx < (w.alloc (.cells #[.string f.path, .string f.data, .int .i64 f.mode] 40)).heap.size := by simp; omega
        cases hl : look ps F with
        | clash c =>
          have hany := k1.1 ⟨c, hl⟩
          rw [if_pos hany] at he
          rw [he, if_neg (by omega)]
          rw [hl] at C2
          have C2 : Calls Try.prog 41 #[.pointer (some ⟨x, 0, none⟩), .string f.path] (w.alloc (.cells #[.string f.path, .string f.data, .int .i64 f.mode] 40)) fun e w' => e = .returned (.tuple #[.int .i64 (c : Int), .bool true]) ∧ Only (fun _ => False) (w.alloc (.cells #[.string f.path, .string f.data, .int .i64 f.mode] 40)) w' := C2
          have C2 := hide C2
          clear hm hg he hany k1 k2 k3 k4 hA hv hw hfu hsh hL hl hgd hp hn hne
          go_enter Try.func20, Try.ntmps20
          go_wp2_with fail
          rw [← hbx]
          clear hbx
          refine (unhide C1).mono ?_
          rintro e w' ⟨rfl, rfl⟩
          go_wp2_with fail
          refine (unhide C2).mono ?_
          rintro e w2 ⟨rfl, ho2⟩
          go_wp2_with fail
          go_ret
          exact ⟨rfl, (unhide H1).keep ho2 (fun h => h), o1x.trans ho2 (fun _ _ h => h.elim)⟩
        | file c d m =>
          have hnc : L.any (fun g => clashB (ls g.path) (ls f.path)) = false := by
            cases hb : L.any (fun g => clashB (ls g.path) (ls f.path)) with
            | false => rfl
            | true => obtain ⟨c', hc'⟩ := k1.2 hb; rw [hl] at hc'; cases hc'
          have hmem := k3 c d m hl
          have hfi : findI L f.path ≠ -1 := fun e => by
            have := findI_iff.1 e _ hmem
            rw [pth_mk, hp] at this
            exact this rfl
          rw [if_neg (by simp [hnc]), if_neg (fun e => hfi e.1)] at he
          rw [he, if_pos rfl]
          rw [hl] at C2
          have C2 : Calls Try.prog 41 #[.pointer (some ⟨x, 0, none⟩), .string f.path] (w.alloc (.cells #[.string f.path, .string f.data, .int .i64 f.mode] 40)) fun e w' => e = .returned (.tuple #[.int .i64 (c : Int), .bool false]) ∧ Only (fun _ => False) (w.alloc (.cells #[.string f.path, .string f.data, .int .i64 f.mode] 40)) w' := C2
          have hsrt : L.Pairwise (fun a b => bl (pth a) (pth b) = true) := hL ▸ gather_sorted hw []
          have hfok : goodB (pth f) = true ∧ 0 ≤ f.mode ∧ f.mode ≤ 3 ∧ f.data.size ≤ 180 := ⟨hg, by omega, by omega, by omega⟩
          have C3 := hide (fun (w2 : World) (ho2 : Only (fun _ => False) (w.alloc (.cells #[.string f.path, .string f.data, .int .i64 f.mode] 40)) w2) => iput_any (hA.keep ho2 (fun h => h)) hv hw hsh hfu f ps hp hne hn hp12 (by omega) (by rw [hl]; intro c' e; cases e) false (by rw [hl]; simp) (fun h => by cases h) (by omega) L.length (by simp))
          have hc := (hv.tr.lay.rng c (look_id hl)).1
          have hlen : L.length = (withL L f).length := (withL_old hsrt ⟨_, hmem, by rw [pth_mk]; exact hp.symm⟩).symm
          have hix : ∀ w3 P' fr' G fl', IAt w3 x P' fr' L.length → PutOk F f P' fr' G fl' → IX w3 x (withL L f) := fun w3 P' fr' G fl' h1 h2 => h2.ix h1 hL hlen hcnt hsrt hgd hfok
          have Hix := hide hix
          have c0 : ((c : Int) == 0) = false := by simp; omega
          have C2 := hide C2
          have k1x := True.intro
          have R0 := hide r0
          clear hm hg he hnc k1 k2 k3 k4 hA hv hw hfu hsh hL hl hgd hp hn hne hix hmem hfi hsrt hfok hlen H1
          go_enter Try.func20, Try.ntmps20
          go_wp2_with fail
          rw [← hbx]
          clear hbx
          refine (unhide C1).mono ?_
          rintro e w' ⟨rfl, rfl⟩
          go_wp2_with fail
          refine (unhide C2).mono ?_
          rintro e w2 ⟨rfl, ho2⟩
          have r2 := (unhide R0).keep ho2 (fun h => h)
          have q0 := r2.cell 0
          have q1 := r2.cell 1
          have q2 := r2.cell 2
          have C3' := hide (unhide C3 w2 ho2)
          go_wp2_with fail
          refine (unhide C3').mono ?_
          rintro e w3 ⟨rfl, ⟨P', fr', G, fl', h3, hok⟩, ho3⟩
          have hfin := unhide Hix w3 P' fr' G fl' h3 hok
          clear h3 hok C3 C3'
          go_wp2_with fail
          go_ret
          exact ⟨rfl, hfin, (o1x.trans ho2 (fun _ _ h => h.elim)).trans ho3 (fun _ _ h => h)⟩
        | new =>
          obtain ⟨hnc, hfi⟩ := k2.1 hl
          rw [if_neg (by simp [hnc])] at he
          rw [hl] at C2
          have C2 : Calls Try.prog 41 #[.pointer (some ⟨x, 0, none⟩), .string f.path] (w.alloc (.cells #[.string f.path, .string f.data, .int .i64 f.mode] 40)) fun e w' => e = .returned (.tuple #[.int .i64 0, .bool false]) ∧ Only (fun _ => False) (w.alloc (.cells #[.string f.path, .string f.data, .int .i64 f.mode] 40)) w' := C2
          have C2 := hide C2
          have hA' := fun (w2 : World) (ho2 : Only (fun _ => False) (w.alloc (.cells #[.string f.path, .string f.data, .int .i64 f.mode] 40)) w2) => (hA.keep ho2 (fun h => h)).files_
          have HA := hide hA'
          have R0 := hide r0
          by_cases h8 : 8 ≤ L.length
          · rw [if_pos ⟨hfi, h8⟩] at he
            rw [he, if_neg (by omega)]
            have e8 : decide ((8 : Int) ≤ (L.length : Int)) = true := by simp; omega
            clear hm hg he hnc k1 k2 k3 k4 hA hv hw hfu hsh hL hl hgd hp hn hne hfi hA'
            go_enter Try.func20, Try.ntmps20
            go_wp2_with fail
            rw [← hbx]
            clear hbx
            refine (unhide C1).mono ?_
            rintro e w' ⟨rfl, rfl⟩
            go_wp2_with fail
            refine (unhide C2).mono ?_
            rintro e w2 ⟨rfl, ho2⟩
            have y0 := unhide HA w2 ho2
            go_wp2_with fail
            go_ret
            exact ⟨rfl, (unhide H1).keep ho2 (fun h => h), o1x.trans ho2 (fun _ _ h => h.elim)⟩
          · rw [if_neg (fun e => h8 e.2)] at he
            rw [he, if_pos rfl]
            have e8 : decide ((8 : Int) ≤ (L.length : Int)) = false := by simp; omega
            have hroom := room hv hw hfu hL (fun g hg' => (hgd g hg').1) (by omega)
            have hlp := joinP_long hne hn
            rw [← hp, ls_len] at hlp
            have hsrt : L.Pairwise (fun a b => bl (pth a) (pth b) = true) := hL ▸ gather_sorted hw []
            have hfok : goodB (pth f) = true ∧ 0 ≤ f.mode ∧ f.mode ≤ 3 ∧ f.data.size ≤ 180 := ⟨hg, by omega, by omega, by omega⟩
            have C3 := hide (fun (w2 : World) (ho2 : Only (fun _ => False) (w.alloc (.cells #[.string f.path, .string f.data, .int .i64 f.mode] 40)) w2) => iput_any (hA.keep ho2 (fun h => h)) hv hw hsh hfu f ps hp hne hn hp12 (by omega) (by rw [hl]; intro c' e; cases e) true (by rw [hl]; simp) (fun _ => by omega) (by omega) (L.length + 1) (by simp))
            have hlen : L.length + 1 = (withL L f).length := (withL_new (fun g hg' e => findI_iff.1 hfi g hg' e)).symm
            have hix : ∀ w3 P' fr' G fl', IAt w3 x P' fr' (L.length + 1) → PutOk F f P' fr' G fl' → IX w3 x (withL L f) := fun w3 P' fr' G fl' h1 h2 => h2.ix h1 hL hlen (by omega) hsrt hgd hfok
            have Hix := hide hix
            clear hm hg he hnc k1 k2 k3 k4 hA hv hw hfu hsh hL hl hgd hp hn hne hix hfi hsrt hfok hlen H1 hA' hroom hlp
            go_enter Try.func20, Try.ntmps20
            go_wp2_with fail
            rw [← hbx]
            clear hbx
            refine (unhide C1).mono ?_
            rintro e w' ⟨rfl, rfl⟩
            go_wp2_with fail
            refine (unhide C2).mono ?_
            rintro e w2 ⟨rfl, ho2⟩
            have y0 := unhide HA w2 ho2
            have r2 := (unhide R0).keep ho2 (fun h => h)
            have q0 := r2.cell 0
            have q1 := r2.cell 1
            have q2 := r2.cell 2
            have C3' := hide (unhide C3 w2 ho2)
            go_wp2_with fail
            refine (unhide C3').mono ?_
            rintro e w3 ⟨rfl, ⟨P', fr', G, fl', h3, hok⟩, ho3⟩
            have hfin := unhide Hix w3 P' fr' G fl' h3 hok
            clear h3 hok C3 C3'
            go_wp2_with fail
            go_ret
            exact ⟨rfl, hfin, (o1x.trans ho2 (fun _ _ h => h.elim)).trans ho3 (fun _ _ h => h)⟩
end
end Go.Proofs.Qxb6500418a
