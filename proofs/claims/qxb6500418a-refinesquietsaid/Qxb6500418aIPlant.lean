/-
  OWN WORK. THE INDEX's POOL: plant.
-/
import Derived.Test.Qxb6500418aIPlantP
namespace Go.Proofs.Qxb6500418a
open Go.RowKit Go.PlainAid
set_option linter.unusedSimpArgs false
set_option linter.unusedVariables false

/-- A path read from a place on: the parts ahead. -/
structure PosAt (path : ByteArray) (at_ : Nat) (qs : List Str) : Prop where
  ok : NamesOk qs
  le : at_ ≤ path.size + 1
  more : qs ≠ [] → (ls path).drop at_ = joinP qs ∧ at_ < path.size
  done : qs = [] → path.size ≤ at_
theorem joinP_pos {qs : List Str} (hne : qs ≠ []) (hn : NamesOk qs) : 0 < (joinP qs).length := by
  cases qs with
  | nil => exact absurd rfl hne
  | cons n2 r2 =>
    have hn2 := (hn n2 (by simp)).1
    have : n2.length ≠ 0 := fun e => hn2 (List.length_eq_zero_iff.1 e)
    cases r2 with
    | nil => show 0 < n2.length; omega
    | cons m r => rw [joinP_cons (by simp)]; simp; omega
theorem PosAt.start {path : ByteArray} {ps : List Str} (hp : ls path = joinP ps) (hne : ps ≠ []) (hn : NamesOk ps) : PosAt path 0 ps := by
  refine ⟨hn, by omega, fun _ => ⟨by rw [List.drop_zero]; exact hp, ?_⟩, fun e => absurd e hne⟩
  rw [← ls_len, hp]
  exact joinP_pos hne hn
/-- One part on. -/
theorem PosAt.step {path : ByteArray} {at_ : Nat} {n : Str} {rs : List Str} (h : PosAt path at_ (n :: rs)) :
    (∀ (w : World), path.size ≤ 1000000 → Calls Try.prog 55 #[.string path, .int .i64 at_] w fun e w' => e = .returned (.int .i64 ((at_ + n.length : Nat) : Int)) ∧ w = w') ∧
    at_ + n.length ≤ path.size ∧ path.extract at_ (at_ + n.length) = st n ∧ (rs = [] ↔ at_ + n.length = path.size) ∧ PosAt path (at_ + n.length + 1) rs ∧ n.length ≤ path.size := by
  obtain ⟨hok, hle, hmore, hdone⟩ := h
  obtain ⟨hd, hlt⟩ := hmore (by simp)
  have hn1 := hok n (by simp)
  have hnr : NamesOk rs := fun y hy => hok y (by simp [hy])
  have hdr : (ls path).drop at_ = n ++ (if rs = [] then [] else 47 :: joinP rs) := by
    rw [hd]
    by_cases e : rs = []
    · subst e; rw [if_pos rfl]; simp [joinP]
    · rw [if_neg e, joinP_cons e]
  have hlen := congrArg List.length hdr
  rw [List.length_drop, ls_len, List.length_append] at hlen
  have hend : at_ + n.length ≤ path.size := by omega
  refine ⟨fun w hsz => partEnd_any path at_ n _ hdr hn1.2 ?_ (by omega) hsz w, hend, ?_, ?_, ?_, by omega⟩
  · by_cases e : rs = []
    · rw [if_pos e]; exact .inl rfl
    · rw [if_neg e]; exact .inr ⟨_, rfl⟩
  · apply ls_inj
    rw [ls_cut, hdr, ls_st]
    have e : at_ + n.length - at_ = n.length := by omega
    rw [e, List.take_left']
    rfl
  · by_cases e : rs = []
    · rw [if_pos e] at hlen
      simp at hlen
      exact ⟨fun _ => by omega, fun _ => e⟩
    · rw [if_neg e] at hlen
      have := joinP_pos e hnr
      simp at hlen
      exact ⟨fun h => absurd h e, fun h => by omega⟩
  · refine ⟨hnr, by omega, fun e => ?_, fun e => ?_⟩
    · rw [if_neg e] at hdr hlen
      have h1 : (ls path).drop (at_ + n.length + 1) = joinP rs := by
        have : (ls path).drop (at_ + n.length + 1) = ((ls path).drop at_).drop (n.length + 1) := by rw [List.drop_drop]; congr 1
        rw [this, hdr, ← List.drop_drop, List.drop_left']
        · rfl
        · rfl
      refine ⟨h1, ?_⟩
      have := joinP_pos e hnr
      simp at hlen
      omega
    · rw [if_pos e] at hlen
      simp at hlen
      omega

section
variable {w : World} {x : Nat} {P : Nat → Nd} {fr fi : Nat} {fl : List Nat} {F : Fo}
set_option maxRecDepth 100000 in
set_option maxHeartbeats 4000000 in
theorem plant_any (h : IAt w x P fr fi) (hv : IInv P fr F fl) (hw : F.Wf) (hsh : F.Short) (hfu : F.Full) (path : ByteArray) (ps : List Str) (hp : ls path = joinP ps) (hne : ps ≠ []) (hn : NamesOk ps) (hsz : path.size ≤ 12) (hcl : ∀ c, look ps F ≠ .clash c) (new : Bool) (hnew : look ps F = .new ↔ new = true) (hroom : new = true → ps.length ≤ fl.length) (hfi : fi ≤ 1000) :
    Calls Try.prog 57 #[.pointer (some ⟨x, 0, none⟩), .string path] w fun e w' => ∃ c P' fr' fi' fl' G, e = .returned (.int .i64 (c : Nat)) ∧ IAt w' x P' fr' fi' ∧ Pl P' fr' fi' fl' G F ps ps [] c fi new ∧ Only (fun k => k = x) w w' := by
  have hS0 : Pl P fr fi fl F F ps [] ps 0 fi new := by
    refine ⟨hv, hw, hsh, rfl, fun _ _ => rfl, .inl ⟨hne, rfl, F, rfl, hfu, ?_, hcl, hnew, hroom⟩⟩
    intro J hJ _
    exact hJ
  have hP0 := PosAt.start hp hne hn
  have hxl := h.lt
  have HS0 := hide hS0
  have HP0 := hide hP0
  have H0 := hide h
  clear hS0 hP0 hv hw hsh hfu hcl hnew hroom hp hn hne h
  go_enter Try.func57, Try.ntmps57
  go_wp2_with fail
  go_loopw [5, 6] (fun dv av wr => ∃ (a qs : List Str) (dn at_ : Nat) (P' : Nat → Nd) (fr' fi' : Nat) (fl' : List Nat) (G : Fo), dv = .int .i64 dn ∧ av = .int .i64 at_ ∧ IAt wr x P' fr' fi' ∧ Pl P' fr' fi' fl' G F ps a qs dn fi new ∧ PosAt path at_ qs ∧ Only (fun k => k = x) w wr) (fun _ av _ => (path.size + 1) - (intOf av).toNat)
  case atStart => exact ⟨[], ps, 0, 0, P, fr, fi, fl, F, rfl, rfl, unhide H0, unhide HS0, unhide HP0, Only.refl _ _⟩
  case round =>
    clear HS0 HP0 H0
    obtain ⟨a, qs, dn, at_, P', fr', fi', fl', G, rfl, rfl, h, hS, hpos, ho⟩ := hrel
    have hxr := h.lt
    cases qs with
    | nil =>
      have hge := hpos.done rfl
      have a1 : decide ((at_ : Int) < (path.size : Int)) = false := by simp; omega
      have a1' : ¬ at_ < path.size := by omega
      have ha : a = ps := by have := hS.split; simpa using this.symm
      subst ha
      have HS := hide hS
      have HH := hide h
      clear hS h hpos
      go_wp2_with fail
      go_ret
      exact ⟨dn, P', fr', fi', fl', G, rfl, unhide HH, unhide HS, ho⟩
    | cons n rs =>
      obtain ⟨_, hlt⟩ := hpos.more (by simp)
      have a1 : decide ((at_ : Int) < (path.size : Int)) = true := by simp; omega
      have a1' : at_ < path.size := hlt
      obtain ⟨C1, hend, hx, hlast, hpos2, hn12⟩ := hpos.step
      have hnok := hpos.ok n (by simp)
      have C1 := hide (C1 wr (by omega))
      obtain ⟨K, hd, hfi2⟩ : ∃ K, dirAt a 0 G = some (dn, K) ∧ fi' = fi := by
        rcases hS.kind with ⟨_, hf, K, hd, _⟩ | ⟨e, _⟩
        · exact ⟨K, hd, hf⟩
        · cases e
      have hfi3 : fi' ≤ 1000 := by omega
      clear hfi2
      have hlK := Lay.dirAt hS.inv.tr.lay hd
      have hsub := dirAt_ids hd
      have hdn : dn < 49 := by
        have := hsub.subset (by simp : dn ∈ dn :: K.ids)
        simp at this
        rcases this with e | e
        · omega
        · exact (hS.inv.tr.lay.rng dn e).2
      have hKl : K.ids.length ≤ 48 := by
        have h1 := hsub.length_le
        have h2 := hS.inv.tr.len
        simp at h1
        omega
      have C2 := childOf_any h dn hdn K hlK (Nat.le_trans (sibs_ids K) hKl) n
      have d1 : (dn : Int) < 49 := by omega
      have Hpos2 := hide hpos2
      have Hlast := hide hlast
      clear hpos hpos2 hlast
      generalize hj : at_ + n.length = j at *
      have Hj := hide hj
      have hj1 : (at_ : Int) ≤ (j : Int) := by omega
      have hj2 : (j : Int) ≤ (path.size : Int) := by omega
      clear hj
      cases hh : K.hit n with
      | file c d m =>
        obtain ⟨hrs, hS2⟩ := hS.found hd hh
        have hc := hlK.rng c (hit_file_id hh)
        have c0 : ((c : Int) == 0) = false := by simp; omega
        rw [hh] at C2
        have hid : idOf (.file c d m) = c := rfl
        rw [hid] at C2
        have C2 := hide C2
        subst hrs
        have HS2 := hide hS2
        have HH := hide h
        clear hS hS2 h hid hh hlK hsub hd
        go_wp2_with fail
        refine (unhide C1).mono ?_
        rintro e w' ⟨rfl, rfl⟩
        go_wp2_with fail
        refine (unhide C2).mono ?_
        rintro e w' ⟨rfl, rfl⟩
        go_wp2_with fail
        go_roundw
        case rel => exact ⟨a ++ [n], [], c, j + 1, P', fr', fi', fl', G, rfl, by go_num, unhide HH, unhide HS2, unhide Hpos2, ho⟩
        case measure => have := unhide Hj; simp [intOf]; omega
      | dir c k =>
        have hS2 := hS.into hd hh
        have hc := hlK.rng c ((hit_ids hh).subset (by simp))
        have c0 : ((c : Int) == 0) = false := by simp; omega
        rw [hh] at C2
        have hid : idOf (.dir c k) = c := rfl
        rw [hid] at C2
        have C2 := hide C2
        have HS2 := hide hS2
        have HH := hide h
        clear hS hS2 h hid hh hlK hsub hd
        go_wp2_with fail
        refine (unhide C1).mono ?_
        rintro e w' ⟨rfl, rfl⟩
        go_wp2_with fail
        refine (unhide C2).mono ?_
        rintro e w' ⟨rfl, rfl⟩
        go_wp2_with fail
        go_roundw
        case rel => exact ⟨a ++ [n], rs, c, j + 1, P', fr', fi', fl', G, rfl, by go_num, unhide HH, unhide HS2, unhide Hpos2, ho⟩
        case measure => have := unhide Hj; simp [intOf]; omega
      | none =>
        obtain ⟨fl2, hfl, hS2⟩ := hS.made hd hh hnok (by omega)
        subst hfl
        obtain ⟨_, hc, _, _⟩ := hS.inv.fre
        have hnd' := List.nodup_append.1 hS.inv.nd
        have hcG : fr' ∉ G.ids := fun hm => hnd'.2.2 fr' hm fr' (by simp) rfl
        have hcd : fr' ≠ dn := by
          intro e
          have := hsub.subset (by simp : dn ∈ dn :: K.ids)
          simp at this
          rcases this with e2 | e2
          · omega
          · exact hcG (e ▸ e2)
        have hcK : fr' ∉ K.ids := by
          intro hm
          have := hsub.subset (by simp [hm] : fr' ∈ dn :: K.ids)
          simp at this
          rcases this with e2 | e2
          · omega
          · exact hcG e2
        rw [hh] at C2
        have C2 : Calls Try.prog 56 #[.pointer (some ⟨x, 0, none⟩), .int .i64 dn, .string (st n)] wr fun e w' => e = .returned (.int .i64 0) ∧ wr = w' := C2
        have C2 := hide C2
        have C3 := link_any h dn hdn K hlK hKl hc hcd hcK n (by omega) (Short.names (Short.dirAt hS.sh hd)) (decide (rs = []))
        have HS2 := hide hS2
        clear hS hS2 hh hlK hsub hd hnd' hcG hcK
        by_cases hrs : rs = []
        · have hj3 : j = path.size := (unhide Hlast).1 hrs
          have e1 : ((j : Int) == (path.size : Int)) = true := by rw [hj3]; simp
          rw [decide_eq_true hrs] at C3 HS2
          rw [if_pos hrs] at HS2
          have C3 := hide C3
          clear hj3 Hlast h
          go_wp2_with fail
          refine (unhide C1).mono ?_
          rintro e w' ⟨rfl, rfl⟩
          go_wp2_with fail
          refine (unhide C2).mono ?_
          rintro e w' ⟨rfl, rfl⟩
          go_wp2_with fail
          refine (unhide C3).mono ?_
          rintro e w2 ⟨rfl, h2, ho2⟩
          have f1 := h2.files_
          have h3 := h2.setFiles (fi' + 1)
          have o3 : Only (fun k => k = x) w (w2.setCell ⟨x, 393, none⟩ (.int .i64 ((fi' + 1 : Nat) : Int))) := (ho.trans ho2 (fun _ _ h => h)).setCell (p := ⟨x, 393, none⟩) (fun _ => rfl) _
          have ecast : ((fi' + 1 : Nat) : Int) = (fi' : Int) + 1 := by omega
          rw [ecast] at h3 o3
          have H3 := hide h3
          have O3 := hide o3
          clear h2 h3 o3 C1 C2 C3
          go_wp2_with fail
          go_roundw
          case rel => exact ⟨a ++ [n], rs, fr', j + 1, _, _, fi' + 1, fl2, _, rfl, by go_num, unhide H3, unhide HS2, unhide Hpos2, unhide O3⟩
          case measure => have := unhide Hj; simp [intOf]; omega
        · have hj3 : j ≠ path.size := fun e => hrs ((unhide Hlast).2 e)
          have e1 : ((j : Int) == (path.size : Int)) = false := by simp; omega
          rw [decide_eq_false hrs] at C3 HS2
          rw [if_neg hrs] at HS2
          have C3 := hide C3
          clear hj3 Hlast h
          go_wp2_with fail
          refine (unhide C1).mono ?_
          rintro e w' ⟨rfl, rfl⟩
          go_wp2_with fail
          refine (unhide C2).mono ?_
          rintro e w' ⟨rfl, rfl⟩
          go_wp2_with fail
          refine (unhide C3).mono ?_
          rintro e w2 ⟨rfl, h2, ho2⟩
          have o3 := ho.trans ho2 (fun _ _ h => h)
          have H2 := hide h2
          clear h2 C1 C2 C3
          go_wp2_with fail
          go_roundw
          case rel => exact ⟨a ++ [n], rs, fr', j + 1, _, _, fi', fl2, _, rfl, by go_num, unhide H2, unhide HS2, unhide Hpos2, o3⟩
          case measure => have := unhide Hj; simp [intOf]; omega
end
end Go.Proofs.Qxb6500418a
