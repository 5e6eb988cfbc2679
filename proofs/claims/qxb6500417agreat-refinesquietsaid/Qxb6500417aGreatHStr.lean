/-
  OWN WORK. THE GRAPH's MODEL: api's addOnce, dirs, Cost (written by tools/gen_hstr.py).
-/
import Derived.Test.Qxb6500417aGreatHNl2
namespace Go.Proofs.Qxb6500417aGreat
open Go.RowKit Go.PlainAid
set_option linter.unusedSimpArgs false
set_option linter.unusedVariables false

theorem Tryz.infoStrU : (Tryz.prog.info? 9).map (fun i => (i.zero, i.size, i.bytes)) = some (some (.string ⟨#[]⟩), 1, 16) := by kernel_rfl
def sV (l : List ByteArray) : List Value := l.map Value.string
theorem sV_snoc (l : List ByteArray) (x : ByteArray) : sV (l ++ [x]) = sV l ++ [.string x] := by simp [sV]
def OwnSt (w : World) (v : Value) (l : List ByteArray) : Prop := w.ownsRow 0 9 1 v l.length (sV l)
/-- A list of strings that was made. -/
structure SM (w : World) (v : Value) (l : List ByteArray) (w' : World) : Prop where
  own : OwnSt w' v l
  hb : ∀ y, v.ownBlock = some y → w.heap.size ≤ y
  ho : Only (fun _ => False) w w'
theorem SM.nil (w : World) : SM w (.slice none 0 0) [] w := ⟨World.ownsRow_nil _ _ _ _, fun y hy => by simp [Value.ownBlock] at hy, Only.refl _ _⟩
theorem SM.quiet {w : World} {v : Value} {l : List ByteArray} {w1 w2 : World} (h : SM w v l w1) (ho : Only (fun _ => False) w1 w2) : SM w v l w2 := ⟨ownsRow_keep h.own ho (fun _ _ h => h), h.hb, h.ho.trans ho (fun _ _ h => h)⟩
theorem SM.keep {S : Nat → Prop} {w : World} {v : Value} {l : List ByteArray} {w1 w2 : World} (h : SM w v l w1) (ho : Only S w1 w2) (hS : ∀ y, v.ownBlock = some y → ¬ S y) (hw : ∀ y, S y → w.heap.size ≤ y) : SM w v l w2 := ⟨ownsRow_keep h.own ho hS, h.hb, h.ho.trans ho (fun y hy e => by have := hw y e; omega)⟩
theorem SM.push2 {w : World} {v v' : Value} {l : List ByteArray} {w1 w2 : World} {o : Obj} {n : Nat} {x : ByteArray} (h : SM w v l w1) (hown : w2.ownsRow 0 9 1 v' n (sV l ++ [.string x])) (hn : n = l.length + 1) (hgrow : (w1.alloc o).grownBy w2 v.ownBlock) (hwhere : ∀ k, v'.ownBlock = some k → v.ownBlock = some k ∨ k = w1.heap.size + 1) : SM w v' (l ++ [x]) w2 := by
  have hs := h.ho.size
  refine ⟨?_, fun y hy => ?_, (h.ho.alloc _).grown hgrow (fun b hb hlt => by have := h.hb b hb; omega)⟩
  · unfold OwnSt
    rw [sV_snoc, List.length_append, List.length_singleton, ← hn]
    exact hown
  · rcases hwhere y hy with e | e
    · exact h.hb y e
    · omega
theorem SM.cellAt {w w' : World} {v : Value} {l : List ByteArray} (h : SM w v l w') {i : Nat} (hi : i < l.length) : ∃ g cap, v = .slice (some ⟨g, 0, none⟩) l.length cap ∧ g < w'.heap.size ∧ w'.cell? ⟨g, i, none⟩ = some (.string l[i]) := by
  obtain ⟨g, cap, hv, hc⟩ := ownsRow_at h.own (by omega)
  have c := hc i (.string l[i]) (by simp [sV, hi])
  exact ⟨g, cap, hv, World.block_lt_of_cell? w' _ c, c⟩
theorem SM.shape {w w' : World} {v : Value} {l : List ByteArray} (h : SM w v l w') : ∃ a cap, v = .slice a l.length cap := ownsRow_shape h.own
theorem addO_len (s : List ByteArray) (x : ByteArray) : (addO s x).length ≤ s.length + 1 := by
  unfold addO
  split
  · omega
  · simp
theorem addOs_len : ∀ (xs s : List ByteArray), (addOs s xs).length ≤ s.length + xs.length
  | [], s => by simp [addOs]
  | x :: xs, s => by
    have h1 := addOs_len xs (addO s x)
    have h2 := addO_len s x
    show (addOs (addO s x) xs).length ≤ _
    simp
    omega
/-- What addOnce leaves: the row turned in place, or a new one. -/
structure AdP (w0 : World) (v v' : Value) (l : List ByteArray) (w w' : World) : Prop where
  sm : SM w0 v' l w'
  only : Only (fun y => v.ownBlock = some y) w w'
  whr : ∀ k, v'.ownBlock = some k → v.ownBlock = some k ∨ w.heap.size ≤ k
section
variable {w0 w : World}
set_option maxRecDepth 100000 in
set_option maxHeartbeats 2000000 in
theorem aaddOnce_any {v : Value} {s : List ByteArray} (h : SM w0 v s w) (hl : s.length ≤ 1000000) (x : ByteArray) :
    Calls Tryz.prog 199 #[v, .string x] w fun e w' => ∃ v', e = .returned v' ∧ AdP w0 v v' (addO s x) w w' := by
  obtain ⟨i0, hi0, hz0, hz1, hz2⟩ := info_parts Tryz.infoStrU
  have H0 := hide h
  have own1 := hide h.own
  obtain ⟨a, cap, rfl⟩ := h.shape
  clear h
  go_enter Tryz.func199, Tryz.ntmps199
  go_wp2_with fail
  go_loopw [5] (fun iv wr => ∃ i : Nat, iv = .int .i64 i ∧ i ≤ s.length ∧ (∀ j (hj : j < s.length), j < i → s[j] ≠ x) ∧ w = wr) (fun iv _ => s.length - (intOf iv).toNat)
  case atStart => exact ⟨0, rfl, by omega, fun j _ hj => by omega, rfl⟩
  case round =>
    obtain ⟨i, rfl, hi, hno, rfl⟩ := hrel
    by_cases hil : i < s.length
    · obtain ⟨g, _, he, hgl, c0⟩ := (unhide H0).cellAt hil
      obtain ⟨rfl, rfl⟩ := slice_eq he
      have b1 : decide ((i : Int) < (s.length : Int)) = true := decide_eq_true (by omega)
      have b1n : decide (i < s.length) = true := decide_eq_true hil
      have b2 : (i : Int) < (s.length : Int) := by omega
      by_cases heq : s[i] = x
      · have hR : addO s x = s := by unfold addO; rw [if_pos (hasS_iff.2 (by rw [← heq]; exact List.getElem_mem hil))]
        have HR := hide hR
        rw [heq] at c0
        have b3 := str_eq x
        clear hR hno heq he
        go_wp2_with fail
        go_ret
        exact ⟨_, rfl, by rw [unhide HR]; exact unhide H0, Only.refl _ _, fun k hk => .inl hk⟩
      · have b3 := str_ne heq
        have hno' : ∀ j (hj : j < s.length), j < i + 1 → s[j] ≠ x := fun j hj hji => by
          by_cases e : j = i
          · subst e; exact heq
          · exact hno j hj (by omega)
        have Hno := hide hno'
        clear hno hno' heq he
        generalize s[i] = bn at *
        go_wp2_with fail
        go_roundw
        case rel => exact ⟨i + 1, by go_num, by omega, unhide Hno, by first | trivial | rfl⟩
        case measure => simp [intOf]; omega
    · have b1 : decide ((i : Int) < (s.length : Int)) = false := decide_eq_false (by omega)
      have b1n : decide (i < s.length) = false := decide_eq_false hil
      have hR : addO s x = s ++ [x] := by
        unfold addO
        rw [if_neg]
        intro hh
        obtain ⟨j, hj, e⟩ := List.getElem_of_mem (hasS_iff.1 hh)
        exact hno j hj (by omega) e
      have HR := hide hR
      have HM := H0
      have own2 : w.ownsRow 0 9 1 _ _ _ := (unhide own1)
      clear hR hno
      go_wp2_with (at_builtin; refine wpList_append2 _ rfl _ _ 197 rfl 9 i0 _ 1 16 Tryz.underlying197 hi0 hz0 hz1 hz2 rfl (by decide) _ _ _ rfl (own2.alloc _) ⟨w.heap.size, 0, none⟩ 1 1 [.string x] rfl rfl ?d1 ?d2 ?d3 ?d4 ?_)
      try (case d1 => exact news_ok _ _ _ _ rfl)
      case d2 => first | (intro u hu; simp at hu; subst hu; rfl) | exact ⟨rfl, rfl⟩ | exact ⟨rfl, rfl, rfl, rfl⟩ | rfl
      case d3 => unfold maxLen; omega
      case d4 => omega
      intro v7 w7 hown hgrow hwhere
      have h7 := (unhide HM).push2 hown rfl hgrow hwhere
      have ho7 : Only (fun y => (Value.slice a s.length cap).ownBlock = some y) w w7 := ((Only.refl (fun y => (Value.slice a s.length cap).ownBlock = some y) w).alloc _).grown hgrow (fun k hk _ => hk)
      have RR : Hid (AdP w0 (.slice a s.length cap) v7 (addO s x) w w7) := hide ⟨by rw [unhide HR]; exact h7, ho7, fun k hk => by
        rcases hwhere k hk with e | e
        · exact .inl e
        · exact .inr (by omega)⟩
      clear hown hgrow hwhere own2 h7 ho7
      go_wp2_with fail
      go_ret
      exact ⟨_, rfl, unhide RR⟩
end
theorem FilesIn.cellAt {w : World} {v : Value} {l : List Fl} (h : FilesIn w v l) {i : Nat} (hi : i < l.length) : ∃ g cap, v = .slice (some ⟨g, 0, none⟩) l.length cap ∧ g < w.heap.size ∧ w.cell? ⟨g, i * 3, none⟩ = some (.string l[i].path) ∧ w.cell? ⟨g, i * 3 + 1, none⟩ = some (.string l[i].data) ∧ w.cell? ⟨g, i * 3 + 2, none⟩ = some (.int .i64 l[i].mode) := by
  obtain ⟨a, cap, rfl, h2⟩ := h
  obtain ⟨g, rfl, hc⟩ := h2 (by omega)
  exact ⟨g, cap, rfl, World.block_lt_of_cell? w _ (hc i hi).1, hc i hi⟩
theorem FilesIn.shape {w : World} {v : Value} {l : List Fl} (h : FilesIn w v l) : ∃ a cap, v = .slice a l.length cap := by
  obtain ⟨a, cap, rfl, _⟩ := h; exact ⟨a, cap, rfl⟩
/-- The directories of the first i files. -/
def dirsT (l : List Fl) : List ByteArray := l.flatMap (fun f => (preS [] (ls f.path)).map sb)
/-- The directories that the first k bytes of a path show. -/
def preK (p : Str) (k : Nat) : List ByteArray := (preS [] (p.take k)).map sb
theorem preS_snoc : ∀ (p acc : Str) (c : UInt8), preS acc (p ++ [c]) = preS acc p ++ (if c = 47 then [acc ++ p ++ [c]] else [])
  | [], acc, c => by
    show (if c = 47 then _ else _) = _
    by_cases h : c = 47 <;> simp [preS, h]
  | d :: p, acc, c => by
    show (if d = 47 then (acc ++ [d]) :: preS (acc ++ [d]) (p ++ [c]) else preS (acc ++ [d]) (p ++ [c])) = (if d = 47 then (acc ++ [d]) :: preS (acc ++ [d]) p else preS (acc ++ [d]) p) ++ _
    rw [preS_snoc p (acc ++ [d]) c]
    have e : acc ++ [d] ++ p ++ [c] = acc ++ d :: p ++ [c] := by simp
    rw [e]
    by_cases h : d = 47 <;> simp [h]
theorem preK_step {p : Str} {k : Nat} (hk : k < p.length) : preK p (k + 1) = preK p k ++ (if p[k] = 47 then [sb (p.take (k + 1))] else []) := by
  unfold preK
  rw [← take_snoc hk, preS_snoc, List.map_append]
  by_cases h : p[k] = 47
  · rw [if_pos h, if_pos h]; simp
  · rw [if_neg h, if_neg h]; simp
theorem preK_len (p : Str) : ∀ k, (preK p k).length ≤ k
  | 0 => by simp [preK, preS]
  | k + 1 => by
    by_cases hk : k < p.length
    · rw [preK_step hk, List.length_append]
      have := preK_len p k
      split <;> simp <;> omega
    · have e : preK p (k + 1) = preK p k := by
        unfold preK
        rw [List.take_of_length_le (by omega), List.take_of_length_le (by omega)]
      rw [e]
      have := preK_len p k
      omega
theorem dirsT_len (l : List Fl) (hp : ∀ f ∈ l, f.path.size ≤ 1000) : (dirsT l).length ≤ l.length * 1000 := by
  induction l with
  | nil => simp [dirsT]
  | cons f l ih =>
    have h1 := ih (fun x hx => hp x (by simp [hx]))
    have h2 := hp f (by simp)
    have h3 := preK_len (ls f.path) (ls f.path).length
    unfold preK at h3
    rw [List.take_length, ls_size] at h3
    unfold dirsT at h1 ⊢
    rw [List.flatMap_cons, List.length_append, List.length_cons]
    omega
section
variable {w : World}
set_option maxRecDepth 100000 in
set_option maxHeartbeats 8000000 in
theorem adirs_any {v : Value} {l : List Fl} (h : FilesIn w v l) (hl : l.length ≤ 9) (hp : ∀ f ∈ l, f.path.size ≤ 1000) :
    Calls Tryz.prog 176 #[v] w fun e w' => ∃ v', e = .returned v' ∧ SM w v' (dirsF l) w' := by
  have H0 := hide h
  have Hp := hide hp
  obtain ⟨a, cap, rfl⟩ := h.shape
  have hS0 : SM w (.slice (some ⟨w.heap.size, 0, none⟩) 1 1) (addOs [sb []] (dirsT (l.take 0))) (w.alloc (.cells #[.string ⟨#[]⟩] 9)) := by
    refine ⟨?_, fun y hy => by simp [Value.ownBlock] at hy; omega, (Only.refl _ w).alloc _⟩
    exact World.ownsRow_lit w #[.string ⟨#[]⟩] 1 (by omega) (by unfold maxLen; omega) rfl
  have HS0 := hide hS0
  clear h hp hS0
  go_enter Tryz.func176, Tryz.ntmps176
  go_wp2_with fail
  generalize w.alloc (.cells #[.string ⟨#[]⟩] 9) = w1 at *
  go_loopw [3, 4] (fun ov iv wr => ∃ i : Nat, iv = .int .i64 i ∧ i ≤ l.length ∧ SM w ov (addOs [sb []] (dirsT (l.take i))) wr) (fun _ iv _ => l.length - (intOf iv).toNat)
  case atStart => exact ⟨0, rfl, by omega, unhide HS0⟩
  case round =>
    clear HS0
    obtain ⟨i, rfl, hi, hM⟩ := hrel
    by_cases hil : i < l.length
    · obtain ⟨gg, _, he, hgl, c0, _, _⟩ := ((unhide H0).keep hM.ho (fun _ _ h => h)).cellAt hil
      obtain ⟨rfl, rfl⟩ := slice_eq he
      have a1 : decide ((i : Int) < (l.length : Int)) = true := decide_eq_true (by omega)
      have a1n : decide (i < l.length) = true := decide_eq_true hil
      have a2 : (i : Int) < (l.length : Int) := by omega
      have hpz := unhide Hp _ (List.getElem_mem hil)
      have hst : addOs [sb []] (dirsT (l.take (i + 1))) = addOs (addOs [sb []] (dirsT (l.take i))) (preK (ls (l[i]).path) (ls (l[i]).path).length) := by
        rw [← addOs_append]
        congr 1
        unfold dirsT preK
        rw [← take_snoc hil, List.flatMap_append, List.take_length]
        simp
      have hDl : (addOs [sb []] (dirsT (l.take i))).length ≤ 10000 := by
        have h1 := addOs_len (dirsT (l.take i)) [sb []]
        have h2 := dirsT_len (l.take i) (fun f hf => unhide Hp f (List.mem_of_mem_take hf))
        rw [List.length_take] at h2
        simp at h1
        omega
      have Hst := hide hst
      have HM : Hid (SM w _ (addOs (addOs [sb []] (dirsT (l.take i))) (preK (ls (l[i]).path) 0)) wr) := hide hM
      have hll := ls_size (l[i]).path
      clear hM he hst
      generalize (l[i]).path = p at *
      generalize addOs [sb []] (dirsT (l.take i)) = D0 at *
      obtain ⟨oa, oc, hoe⟩ := (unhide HM).shape
      subst hoe
      go_wp2_with fail
      go_loopw [3, 6] (fun ov kv wr => ∃ k : Nat, kv = .int .i64 k ∧ k ≤ p.size ∧ SM w ov (addOs D0 (preK (ls p) k)) wr) (fun _ kv _ => p.size - (intOf kv).toNat)
      case atStart => exact ⟨0, rfl, by omega, unhide HM⟩
      case round =>
        clear HM c0
        obtain ⟨k, rfl, hk, hM⟩ := hrel
        by_cases hkl : k < p.size
        · have b1 : decide ((k : Int) < (p.size : Int)) = true := decide_eq_true (by omega)
          have b1n : decide (k < p.size) = true := decide_eq_true hkl
          have b2 : (k : Int) < (p.size : Int) := by omega
          have hk' : k < (ls p).length := by omega
          have hps := preK_step hk'
          have hDl2 : (addOs D0 (preK (ls p) k)).length ≤ 100000 := by
            have h1 := addOs_len (preK (ls p) k) D0
            have h2 := preK_len (ls p) k
            omega
          have hb := get_bt p
          obtain ⟨c, hc, hd⟩ := ls_at p k hkl
          have hck : (ls p)[k] = c := by
            have h1 := List.drop_eq_getElem_cons hk'
            rw [hd] at h1
            injection h1 with h1 _
            exact h1.symm
          rw [hck] at hps
          have hcl : c.toNat < 256 := c.toNat_lt
          have own1 := hide hM
          obtain ⟨oa2, oc2, hoe⟩ := hM.shape
          subst hoe
          by_cases h47 : c = 47
          · have b3 : ((c.toNat : Int) == 47) = true := by rw [h47]; rfl
            rw [if_pos h47] at hps
            have hex : p.extract 0 (k + 1) = sb ((ls p).take (k + 1)) := by
              apply ls_inj
              rw [ls_cut, ls_sb]; simp
            have C1 := aaddOnce_any hM (by omega) (p.extract 0 (k + 1))
            rw [hex] at C1
            have hst2 : addOs D0 (preK (ls p) (k + 1)) = addO (addOs D0 (preK (ls p) k)) (sb ((ls p).take (k + 1))) := by
              rw [hps, addOs_append]; rfl
            rw [← hst2, ← hex] at C1
            have C1 := hide C1
            have hkk : (k : Int) + 1 ≤ (p.size : Int) := by omega
            clear hM hps hst2 hck hd h47 hex
            go_wp2_with fail
            refine (unhide C1).mono ?_
            rintro e w3 ⟨v3, rfl, hA3⟩
            have HA3 := hide hA3.sm
            obtain ⟨oa3, oc3, hoe⟩ := hA3.sm.shape
            subst hoe
            clear C1 hA3
            go_wp2_with fail
            go_roundw
            case rel => exact ⟨k + 1, by go_num, by omega, unhide HA3⟩
            case measure => simp [intOf]; omega
          · have b3 : ((c.toNat : Int) == 47) = false := by
              cases hq : ((c.toNat : Int) == 47) with
              | false => rfl
              | true =>
                exfalso
                apply h47
                have h1 : (c.toNat : Int) = 47 := by simpa using hq
                have h2 : c.toNat = 47 := by omega
                exact UInt8.toNat_inj.1 h2
            rw [if_neg h47, List.append_nil] at hps
            have HM2 := hide hM
            have Hps := hide hps
            clear hM hps hck hd h47
            go_wp2_with fail
            go_roundw
            case rel => exact ⟨k + 1, by go_num, by omega, by rw [unhide Hps]; exact unhide HM2⟩
            case measure => simp [intOf]; omega
        · have b1 : decide ((k : Int) < (p.size : Int)) = false := decide_eq_false (by omega)
          have b1n : decide (k < p.size) = false := decide_eq_false hkl
          have e1 : k = (ls p).length := by omega
          rw [e1] at hM
          have hM2 := hM
          rw [← unhide Hst] at hM2
          have HM2 := hide hM2
          obtain ⟨oa2, oc2, hoe⟩ := hM2.shape
          subst hoe
          clear hM hM2 e1
          go_wp2_with fail
          go_roundw
          case rel => exact ⟨i + 1, by go_num, by omega, unhide HM2⟩
          case measure => simp [intOf]; omega
    · have e1 : i = l.length := by omega
      subst e1
      have a1 : decide ((l.length : Int) < (l.length : Int)) = false := by simp
      rw [List.take_length] at hM
      have HM := hide hM
      obtain ⟨oa, oc, hoe⟩ := hM.shape
      subst hoe
      clear hM
      go_wp2_with fail
      go_ret
      exact ⟨_, rfl, unhide HM⟩
theorem dirsF_len (l : List Fl) (hp : ∀ f ∈ l, f.path.size ≤ 1000) : (dirsF l).length ≤ 1 + l.length * 1000 := by
  have h1 := addOs_len (dirsT l) [sb []]
  have h2 := dirsT_len l hp
  have h3 : (dirsF l).length ≤ [sb []].length + (dirsT l).length := h1
  simp at h3
  omega
set_option maxRecDepth 100000 in
theorem acost_any {v : Value} {l : List Fl} (h : FilesIn w v l) (hl : l.length ≤ 9) (hp : ∀ f ∈ l, f.path.size ≤ 1000) :
    Calls Tryz.prog 143 #[v] w fun e w' => e = .returned (.int .i64 (costA l : Nat)) ∧ Only (fun _ => False) w w' := by
  have C1 := hide (adirs_any h hl hp)
  have hdl := dirsF_len l hp
  obtain ⟨a, cap, rfl⟩ := h.shape
  have hc : costA l = l.length + (dirsF l).length := rfl
  rw [hc]
  clear h hp hc
  generalize dirsF l = D at *
  go_enter Tryz.func143, Tryz.ntmps143
  go_wp2_with fail
  refine (unhide C1).mono ?_
  rintro e w2 ⟨v2, rfl, hM⟩
  have HO := hide hM.ho
  obtain ⟨oa, oc, hoe⟩ := hM.shape
  subst hoe
  clear C1 hM
  go_wp2_with fail
  go_ret
  exact ⟨by go_num, unhide HO⟩
end
end Go.Proofs.Qxb6500417aGreat
