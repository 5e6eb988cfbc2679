/-
  OWN WORK. THE INDEX's POOL: probe.
-/
import Derived.Test.Qxb6500418aIProbe
namespace Go.Proofs.Qxb6500418a
open Go.RowKit Go.PlainAid
set_option linter.unusedSimpArgs false
set_option linter.unusedVariables false

theorem nodup_sub_le : ∀ (l m : List Nat), l.Nodup → (∀ a ∈ l, a ∈ m) → l.length ≤ m.length := by
  intro l
  induction l with
  | nil => intro m _ _; simp
  | cons a r ih =>
    intro m hn hs
    have ha : a ∈ m := hs a (by simp)
    have hn' := List.nodup_cons.1 hn
    have := ih (m.erase a) hn'.2 (fun c hc => by
      have h1 := hs c (by simp [hc])
      have h2 : c ≠ a := fun e => hn'.1 (e ▸ hc)
      exact (List.mem_erase_of_ne h2).2 h1)
    rw [List.length_erase_of_mem ha] at this
    have : 0 < m.length := List.length_pos_of_mem ha
    simp
    omega
theorem ids48 {l : List Nat} (hn : l.Nodup) (h : ∀ c ∈ l, 1 ≤ c ∧ c < 49) : l.length ≤ 48 := by
  have := nodup_sub_le l ((List.range 48).map (· + 1)) hn (fun a ha => by
    have := h a ha
    simp only [List.mem_map, List.mem_range]
    exact ⟨a - 1, by omega, by omega⟩)
  simpa using this

/-- The tree F lies in the pool, its root at place 0. -/
structure II (P : Nat → Nd) (F : Fo) : Prop where
  root : P 0 = ⟨[], (P 0).child, 0, false, [], 0, 0, 0⟩
  lay : Lay P F (P 0).child
  nd : F.ids.Nodup
theorem II.nd0 {P : Nat → Nd} {F : Fo} (h : II P F) : (0 :: F.ids).Nodup := List.nodup_cons.2 ⟨fun h0 => by have := h.lay.rng 0 h0; omega, h.nd⟩
theorem II.len {P : Nat → Nd} {F : Fo} (h : II P F) : F.ids.length ≤ 48 := ids48 h.nd h.lay.rng
theorem hit_sibs {P : Nat → Nd} {F : Fo} {p : Nat} (hl : Lay P F p) (hn : F.ids.length ≤ 48) {x : Str} {c : Nat} {k : Fo} (hh : F.hit x = .dir c k) : k.ids.length ≤ 48 := by
  have := (hit_ids hh).length_le
  simp at this
  omega
def lookV : Look → Value
  | .new => .tuple #[.int .i64 0, .bool false]
  | .file c _ _ => .tuple #[.int .i64 (c : Int), .bool false]
  | .clash c => .tuple #[.int .i64 (c : Int), .bool true]

/-- Where probe stands. -/
inductive PrS (P : Nat → Nd) (R : Look) (qs : List Str) (dn : Nat) : Prop
  | dir (K : Fo) (h49 : dn < 49) (hl : Lay P K (P dn).child) (hf : (P dn).file = false) (hs : K.ids.length ≤ 48) (hR : R = if qs = [] then .clash dn else look qs K)
  | file (d : Str) (m : Int) (h49 : dn < 49) (hf : (P dn).file = true) (hR : R = if qs = [] then .file dn d m else .clash 0)

section
variable {w : World} {x : Nat} {P : Nat → Nd} {fr fi : Nat} {F : Fo}
set_option maxRecDepth 100000 in
set_option maxHeartbeats 2000000 in
theorem probe_any (h : IAt w x P fr fi) (hI : II P F) (path : ByteArray) (ps : List Str) (hp : ls path = joinP ps) (hne : ps ≠ []) (hn : NamesOk ps) (hsz : path.size ≤ 1000) :
    Calls Try.prog 41 #[.pointer (some ⟨x, 0, none⟩), .string path] w fun e w' => e = .returned (lookV (look ps F)) ∧ Only (fun _ => False) w w' := by
  have hxl := h.lt
  have hR : ∃ R, look ps F = R := ⟨_, rfl⟩
  obtain ⟨R, hR⟩ := hR
  rw [hR]
  have hS0 : PrS P R ps 0 := .dir F (by omega) hI.lay (by rw [hI.root]) hI.len (by rw [if_neg hne, hR])
  have hpos : 0 < path.size := by
    rw [← ls_len, hp]
    cases ps with
    | nil => exact absurd rfl hne
    | cons n r =>
      have hn1 := (hn n (by simp)).1
      have : n.length ≠ 0 := fun e => hn1 (List.length_eq_zero_iff.1 e)
      cases r with
      | nil => show 0 < n.length; omega
      | cons m r => rw [joinP_cons (by simp)]; simp; omega
  have HS0 := hide hS0
  have Hp := hide hp
  have Hn := hide hn
  have Hne := hide hne
  clear hS0 hp hn hne hR hI
  go_enter Try.func41, Try.ntmps41
  go_wp2_with fail
  go_loop [6, 7] (fun dv av => ∃ (qs : List Str) (dn at_ : Nat), dv = .int .i64 dn ∧ av = .int .i64 at_ ∧ PrS P R qs dn ∧ NamesOk qs ∧ at_ ≤ path.size + 1 ∧ (qs ≠ [] → (ls path).drop at_ = joinP qs ∧ at_ < path.size) ∧ (qs = [] → path.size ≤ at_)) (fun _ av => (path.size + 1) - (intOf av).toNat)
  case atStart => exact ⟨ps, 0, 0, rfl, rfl, unhide HS0, unhide Hn, by omega, fun _ => ⟨by rw [List.drop_zero]; exact unhide Hp, hpos⟩, fun e => absurd e (unhide Hne)⟩
  case round =>
    clear HS0 Hp Hn Hne
    obtain ⟨qs, dn, at_, rfl, rfl, hS, hnq, hal, hq1, hq2⟩ := hrel
    cases qs with
    | nil =>
      have hge := hq2 rfl
      have a1 : decide ((at_ : Int) < (path.size : Int)) = false := by simp; omega
      have a1' : ¬ at_ < path.size := by omega
      clear hq1 hq2
      rcases hS with ⟨K, h49, hl, hf, hs, hR⟩ | ⟨d, m, h49, hf, hR⟩
      · rw [if_pos rfl] at hR
        have c3 := h.fl dn h49
        rw [hf] at c3
        have d1 : (dn : Int) < 49 := by omega
        have HR := hide hR
        clear hR hl hf
        go_wp2_with fail
        go_quiet (fail)
        go_wp2_with fail
        go_ret2
        rw [unhide HR]
        exact ⟨rfl, (Only.refl _ w).drewO _⟩
      · rw [if_pos rfl] at hR
        have c3 := h.fl dn h49
        rw [hf] at c3
        have d1 : (dn : Int) < 49 := by omega
        have HR := hide hR
        clear hR hf
        go_wp2_with fail
        go_quiet (fail)
        go_wp2_with fail
        go_ret2
        rw [unhide HR]
        exact ⟨rfl, (Only.refl _ w).drewO _⟩
    | cons n rs =>
      obtain ⟨hd, hlt⟩ := hq1 (by simp)
      have a1 : decide ((at_ : Int) < (path.size : Int)) = true := by simp; omega
      have a1' : at_ < path.size := hlt
      clear hq1 hq2
      rcases hS with ⟨K, h49, hl, hf, hs, hR⟩ | ⟨d, m, h49, hf, hR⟩
      · rw [if_neg (by simp)] at hR
        have c3 := h.fl dn h49
        rw [hf] at c3
        have d1 : (dn : Int) < 49 := by omega
        have hn1 := hnq n (by simp)
        have hdr : (ls path).drop at_ = n ++ (if rs = [] then [] else 47 :: joinP rs) := by
          rw [hd]
          by_cases e : rs = []
          · subst e; rw [if_pos rfl]; simp [joinP]
          · rw [if_neg e, joinP_cons e]
        have C1 := hide (partEnd_any path at_ n (if rs = [] then [] else 47 :: joinP rs) hdr hn1.2 (by
          by_cases e : rs = []
          · rw [if_pos e]; exact .inl rfl
          · rw [if_neg e]; exact .inr ⟨_, rfl⟩) (by omega) (by omega) w)
        have hend : at_ + n.length ≤ path.size := by
          have := congrArg List.length hdr
          rw [List.length_drop, ls_len, List.length_append] at this
          omega
        have hx : path.extract at_ (at_ + n.length) = st n := by
          apply ls_inj
          rw [ls_cut, hdr, ls_st]
          have e : at_ + n.length - at_ = n.length := by omega
          rw [e, List.take_left']
          rfl
        have C2 := hide (childOf_any h dn h49 K hl (Nat.le_trans (sibs_ids K) hs) n)
        have hnx : rs ≠ [] → (ls path).drop (at_ + n.length + 1) = joinP rs ∧ at_ + n.length + 1 < path.size := by
          intro e
          rw [if_neg e] at hdr
          have h1 : (ls path).drop (at_ + n.length + 1) = joinP rs := by
            have : (ls path).drop (at_ + n.length + 1) = ((ls path).drop at_).drop (n.length + 1) := by rw [List.drop_drop]; congr 1
            rw [this, hdr, ← List.drop_drop, List.drop_left']
            · rfl
            · rfl
          refine ⟨h1, ?_⟩
          have h2 := congrArg List.length h1
          rw [List.length_drop, ls_len] at h2
          have h3 : 0 < (joinP rs).length := by
            cases rs with
            | nil => exact absurd rfl e
            | cons n2 r2 =>
              have hn2 := (hnq n2 (by simp)).1
              have : n2.length ≠ 0 := fun e => hn2 (List.length_eq_zero_iff.1 e)
              cases r2 with
              | nil => show 0 < n2.length; omega
              | cons m r => rw [joinP_cons (by simp)]; simp; omega
          omega
        have hlast : rs = [] → path.size ≤ at_ + n.length + 1 := by
          intro e
          rw [if_pos e, List.append_nil] at hdr
          have := congrArg List.length hdr
          rw [List.length_drop, ls_len] at this
          omega
        have hnr : NamesOk rs := fun y hy => hnq y (by simp [hy])
        have Hnx := hide hnx
        have Hlast := hide hlast
        have Hnr := hide hnr
        have hR' : R = match K.hit n with
          | .none => .new
          | .file c d m => if rs = [] then .file c d m else .clash 0
          | .dir c k => if rs = [] then .clash c else look rs k := hR
        clear hdr hnx hlast hnr hd hnq hR
        generalize hj : at_ + n.length = j at *
        have Hj := hide hj
        have hj1 : (at_ : Int) ≤ (j : Int) := by omega
        have hj2 : (j : Int) ≤ (path.size : Int) := by omega
        clear hj
        cases hh : K.hit n with
        | none =>
          rw [hh] at hR' C2
          have HR := hide hR'
          clear hR' hh hl hf
          go_wp2_with fail
          refine (unhide C1).mono ?_
          rintro e w' ⟨rfl, rfl⟩
          go_wp2_with fail
          refine (unhide C2).mono ?_
          rintro e w' ⟨rfl, rfl⟩
          go_wp2_with fail
          go_ret2
          rw [unhide HR]
          exact ⟨rfl, Only.refl _ _⟩
        | file c d m =>
          rw [hh] at hR' C2
          have hc := hl.rng c (hit_file_id hh)
          have hpc := hl.hit_file hh
          have hS2 : PrS P R rs c := .file d m hc.2 (by rw [hpc]) hR'
          have HS2 := hide hS2
          have c0 : ((c : Int) == 0) = false := by simp; omega
          have hid : idOf (.file c d m) = c := rfl
          rw [hid] at C2
          clear hR' hh hl hf hpc hS2 hid
          go_wp2_with fail
          refine (unhide C1).mono ?_
          rintro e w' ⟨rfl, rfl⟩
          go_wp2_with fail
          refine (unhide C2).mono ?_
          rintro e w' ⟨rfl, rfl⟩
          go_wp2_with fail
          go_round
          case rel => exact ⟨rs, c, j + 1, rfl, by go_num, unhide HS2, unhide Hnr, by omega, unhide Hnx, unhide Hlast⟩
          case measure => have := unhide Hj; simp [intOf]; omega
        | dir c k =>
          rw [hh] at hR' C2
          have hc := hl.rng c ((hit_ids hh).subset (by simp))
          have hpc := hl.hit_dir hh
          have hS2 : PrS P R rs c := .dir k hc.2 hpc.1 (by rw [hpc.2]) (hit_sibs hl hs hh) hR'
          have HS2 := hide hS2
          have c0 : ((c : Int) == 0) = false := by simp; omega
          have hid : idOf (.dir c k) = c := rfl
          rw [hid] at C2
          clear hR' hh hl hf hpc hS2 hid
          go_wp2_with fail
          refine (unhide C1).mono ?_
          rintro e w' ⟨rfl, rfl⟩
          go_wp2_with fail
          refine (unhide C2).mono ?_
          rintro e w' ⟨rfl, rfl⟩
          go_wp2_with fail
          go_round
          case rel => exact ⟨rs, c, j + 1, rfl, by go_num, unhide HS2, unhide Hnr, by omega, unhide Hnx, unhide Hlast⟩
          case measure => have := unhide Hj; simp [intOf]; omega
      · rw [if_neg (by simp)] at hR
        have c3 := h.fl dn h49
        rw [hf] at c3
        have d1 : (dn : Int) < 49 := by omega
        have HR := hide hR
        clear hR hf hd hnq
        go_wp2_with fail
        go_ret2
        rw [unhide HR]
        exact ⟨rfl, Only.refl _ _⟩
end
end Go.Proofs.Qxb6500418a
