/-
  OWN WORK. TABLE: fold, all, Tables.
-/
import Derived.Test.Qxb6500412aGreatELd
namespace Go.Proofs.Qxb6500412aGreat
open Go.RowKit Go.PlainAid
set_option linter.unusedSimpArgs false
set_option linter.unusedVariables false

theorem efold_ok (w : World) : Calls Tryz.prog 238 #[.int .i64 0, .int .i64 0] w fun e w' => e = .returned (.int .i64 0) ∧ w = w' := by
  go_enter Tryz.func238, Tryz.ntmps238
  go_wp2_with fail
  go_ret
  exact ⟨rfl, rfl⟩
theorem span_all (l : List KV) : spanP l eB false eB = l := by
  unfold spanP
  have h1 : l.dropWhile (fun e => lt e.1 eB) = l := by
    cases l with
    | nil => rfl
    | cons a r => rw [List.dropWhile_cons, lt_nil]; rfl
  rw [h1]
  rw [takeWhile_take (fun e => !stopP false eB e) l l.length (fun i y _ _ => rfl) (Nat.le_refl _) (fun y hy => by rw [List.getElem?_eq_none (Nat.le_refl _)] at hy; cases hy), List.take_length]
/-- A row of strings. -/
def OwnN (w : World) (v : Value) (l : List ByteArray) : Prop := w.ownsRow 0 9 1 v l.length (l.map Value.string)
theorem Tryz.infoEStr : (Tryz.prog.info? 9).map (fun i => (i.zero, i.size, i.bytes)) = some (some (.string ⟨#[]⟩), 1, 16) := by kernel_rfl
def hn (e : KV) : Option ByteArray := if byteAt e.1 7 = 0 then some (e.1.extract 0 (byteAt e.1 6)) else none
theorem byteAt_app (a b : ByteArray) (j : Nat) : byteAt (a ++ b) j = if j < a.size then byteAt a j else byteAt b (j - a.size) := by
  unfold byteAt
  rw [List.getD_eq_getElem?_getD, List.getD_eq_getElem?_getD, List.getD_eq_getElem?_getD]
  have : (a ++ b).data.toList = a.data.toList ++ b.data.toList := by simp
  rw [this]
  by_cases h : j < a.size
  · rw [if_pos h, List.getElem?_append_left (by simpa using h)]
  · rw [if_neg h, List.getElem?_append_right (by simp; omega)]
    simp
theorem catK_cut (nm : ByteArray) (i : Nat) : (catK nm i).extract 0 7 = cP nm 6 := by
  unfold catK
  apply ls_inj
  rw [ls_cut, ls_append]
  simp only [List.drop_zero, Nat.sub_zero]
  rw [List.take_append_of_le_length (by rw [ls_len, cP_size]; omega), List.take_of_length_le (by rw [ls_len, cP_size]; omega)]
theorem catK_at7 {nm : ByteArray} {i : Nat} (hi : i < 256) : byteAt (catK nm i) 7 = i := by
  unfold catK
  rw [byteAt_app, if_neg (by rw [cP_size]; omega), cP_size]
  exact mkB_at (by omega) hi
theorem catK_at6 {nm : ByteArray} {i : Nat} (hn : nm.size ≤ 6) : byteAt (catK nm i) 6 = nm.size := by
  unfold catK
  rw [byteAt_app, if_pos (by rw [cP_size]; omega)]
  unfold cP
  rw [mkB_at (by omega) (by rw [if_pos rfl]; omega), if_pos rfl]
theorem hn_cat {x : Tb × Hd} {i : Nat} (h6 : x.1.nm.size ≤ 6) (hi : i < 256) : hn (catE x i) = if i = 0 then some x.1.nm else none := by
  unfold hn catE
  simp only
  rw [catK_at7 hi, catK_at6 h6]
  by_cases c : i = 0
  · rw [if_pos c, if_pos c]
    congr 1
    have e1 : (catK x.1.nm i).extract 0 x.1.nm.size = ((catK x.1.nm i).extract 0 7).extract 0 x.1.nm.size := by
      apply ls_inj
      rw [ls_cut, ls_cut, ls_cut]
      simp only [List.drop_zero, Nat.sub_zero]
      rw [List.take_take, Nat.min_eq_left (by omega)]
    rw [e1, catK_cut, cP_cut h6]
  · rw [if_neg c, if_neg c]
theorem hn_all {T : List (Tb × Hd)} (hs : ∀ x ∈ T, x.1.nm.size ≤ 6 ∧ x.1.cols.length ≤ 3) : (catL T).filterMap hn = T.map (fun x => x.1.nm) := by
  unfold catL
  induction T with
  | nil => rfl
  | cons x r ih =>
    rw [List.flatMap_cons, List.filterMap_append, ih (fun y hy => hs y (by simp [hy])), List.map_cons]
    have h := hs x (by simp)
    have : (catT x).filterMap hn = [x.1.nm] := by
      unfold catT
      rw [List.filterMap_map]
      have e : ∀ n, n ≤ 3 → (List.range (1 + n)).filterMap (hn ∘ catE x) = [x.1.nm] := by
        intro n hn3
        rw [Nat.add_comm, List.range_succ_eq_map, List.filterMap_cons]
        simp only [Function.comp_def]
        rw [hn_cat h.1 (by omega), if_pos rfl]
        simp only
        rw [List.filterMap_map]
        have : (List.range n).filterMap ((fun i => hn (catE x i)) ∘ Nat.succ) = [] := by
          rw [List.filterMap_eq_nil_iff]
          intro i hi
          have := List.mem_range.mp hi
          show hn (catE x (i + 1)) = none
          rw [hn_cat h.1 (by omega), if_neg (by omega)]
        rw [this]
      exact e _ h.2
    rw [this]
    rfl
section
variable {q : Gnd} {w : World} {x : Nat} {op : Bool} {S : Vu} {T : List (Tb × Hd)} {t : Tb} {h : Hd}
theorem eall_any (H : ST q w x op S) (h : Int) : Calls Tryz.prog 197 #[.pointer (some ⟨x, 0, none⟩), .int .i64 h] w fun e w' => ∃ v, e = .returned v ∧ OwnE w' v (Lz S h) ∧ Newer w v ∧ ST q w' x op S ∧ Only q.S w w' := by
  have C := espan_any H h eB false eB
  rw [span_all] at C
  have C := hide C
  go_enter Tryz.func197, Tryz.ntmps197
  go_wp2_with fail
  refine (unhide C).mono ?_
  rintro e w' ⟨v, rfl, hv, r⟩
  have HV := hide (And.intro hv r)
  obtain ⟨a, cap, rfl⟩ := ownsRow_shape hv
  clear hv r C
  go_wp2_with fail
  go_ret
  exact ⟨_, rfl, unhide HV⟩
theorem Lz_nat {i : Nat} (hi : i < 8) {l : List KV} (hl : S i = some l) : Lz S (i : Int) = l := by unfold Lz; rw [Vz_nat S hi, hl]; rfl
/-- The names read so far. -/
structure TbI (q : Gnd) (w w1 : World) (x : Nat) (op : Bool) (S : Vu) (l : List ByteArray) (v : Value) (wr : World) : Prop where
  own : OwnN wr v l
  fr : Newer w1 v
  on : Only (fun _ => False) w1 wr
theorem TbI.push {w1 : World} {l : List ByteArray} {v v' : Value} {wr w' : World} {o : Obj} {nm : ByteArray} {n : Nat} (I : TbI q w w1 x op S l v wr) (hown : w'.ownsRow 0 9 1 v' n (l.map Value.string ++ [.string nm])) (hn : n = l.length + 1) (hgrow : (wr.alloc o).grownBy w' v.ownBlock) (hwh : ∀ k, v'.ownBlock = some k → v.ownBlock = some k ∨ k = wr.heap.size + 1) : TbI q w w1 x op S (l ++ [nm]) v' w' := by
  have hs := I.on.size
  refine ⟨?_, fun k hk => ?_, (I.on.alloc _).grown hgrow (fun k hk hlt => by have := I.fr k hk; omega)⟩
  · unfold OwnN
    rw [List.map_append, List.length_append]
    subst hn
    exact hown
  · rcases hwh k hk with d | d
    · exact I.fr k d
    · omega
set_option maxRecDepth 100000 in
set_option maxHeartbeats 4000000 in
theorem etables_any (H : ST q w x op S) (L : Lay S T) : Calls Tryz.prog 134 #[.pointer (some ⟨x, 0, none⟩)] w fun e w' => ∃ v, e = .returned v ∧ OwnN w' v (T.map (fun x => x.1.nm)) ∧ Newer w v ∧ ST q w' x op S ∧ Only q.S w w' := by
  obtain ⟨i0, hi0, hz0, hz1, hz2⟩ := info_parts Tryz.infoEStr
  have C := eall_any H 0
  have hcl : Lz S 0 = catL T := Lz_nat (i := 0) (by omega) L.cat
  rw [hcl] at C
  have C := hide C
  have hlen : (catL T).length ≤ 64 := by have := L.clen; have := L.len; omega
  have HN := hide (hn_all L.small)
  have HE := hide (fun (i : Nat) (e : KV) (he : (catL T)[i]? = some e) => show ∃ nm j, e.1 = catK nm j ∧ nm.size ≤ 6 ∧ j < 256 ∧ hn e = (if j = 0 then some nm else none) from by
    obtain ⟨y, hy, j, hj, rfl⟩ := catL_mem.mp (List.mem_of_getElem? he)
    have hs := L.small y hy
    exact ⟨y.1.nm, j, rfl, hs.1, by omega, hn_cat hs.1 (by omega)⟩)
  have HH := hide H
  clear H L hcl
  generalize catL T = cat at *
  go_enter Tryz.func134, Tryz.ntmps134
  go_wp2_with fail
  refine (unhide C).mono ?_
  rintro e w1 ⟨v, rfl, hv, nv, st1, o1⟩
  obtain ⟨a, cap, rfl⟩ := ownsRow_shape hv
  have HV := hide (And.intro hv (And.intro nv (And.intro st1 o1)))
  have hs1 := o1.size
  have I0 : TbI q w w1 x op S [] (.slice none 0 0) w1 := ⟨World.ownsRow_nil _ _ _ _, fun k hk => by simp [Value.ownBlock] at hk, Only.refl _ _⟩
  have HI0 := hide I0
  clear hv nv st1 o1 C I0
  go_upto_region 4 with fail
  go_loopw [3, 5, 6, 7, 8] (fun nv iv kv mv okv wr => ∃ (i : Nat) (v : Value), v = nv ∧ iv = .int .i64 i ∧ i ≤ cat.length ∧ TbI q w w1 x op S ((cat.take i).filterMap hn) v wr) (fun _ iv _ _ _ _ => cat.length - (intOf iv).toNat)
  case atStart => exact ⟨0, _, rfl, rfl, Nat.zero_le _, unhide HI0⟩
  case round =>
    clear HI0
    obtain ⟨i, ov, hov, rfl, hi, I⟩ := hrel
    subst hov
    obtain ⟨na, nc, hne⟩ := ownsRow_shape I.own
    by_cases hi2 : i < cat.length
    · have a1 : decide ((i : Int) < (cat.length : Int)) = true := decide_eq_true (by omega)
      have a1p : (i : Int) < (cat.length : Int) := by omega
      obtain ⟨e, he⟩ := getE hi2
      obtain ⟨g, cap', hae, e0, e1⟩ := OwnE.at_ ((unhide HV).1.keep I.on (fun _ _ e => e)) he
      simp only [Value.slice.injEq] at hae
      obtain ⟨rfl, _, rfl⟩ := hae
      obtain ⟨nm, j, hk, hn6, hj, hhn⟩ := unhide HE i e he
      have htk : cat.take (i + 1) = cat.take i ++ [e] := by
        rw [List.take_succ_eq_append_getElem hi2]
        rw [List.getElem?_eq_getElem hi2] at he
        rw [Option.some.inj he]
      have hks : e.1.size = 8 := by rw [hk]; exact catK_size _ _
      have h7 : byteAt e.1 7 = j := by rw [hk]; exact catK_at7 hj
      have hcut : e.1.extract 0 7 = cP nm 6 := by rw [hk]; exact catK_cut _ _
      have CU := hide (eunpad_any nm 6 hn6 (by omega) wr)
      obtain ⟨ek, ev⟩ := e
      simp only at *
      have ks : (ek.size : Int) = 8 := by omega
      have q7 : 7 < ek.size := by omega
      have b7 : (ek[7].toNat : Int) = (j : Int) := by rw [byteAt_idx ek 7 q7, h7]
      have hle : (7 : Int) ≤ (ek.size : Int) := by omega
      have HT := hide htk
      have HHn := hide hhn
      clear he hk hks h7 htk hhn e1
      by_cases hj0 : j = 0
      · subst hj0
        have hl64 : ((cat.take i).filterMap hn).length ≤ 64 := Nat.le_trans (List.length_filterMap_le _ _) (by rw [List.length_take]; omega)
        have own1 : wr.ownsRow 0 9 1 (.slice na ((cat.take i).filterMap hn).length nc) ((cat.take i).filterMap hn).length (((cat.take i).filterMap hn).map Value.string) := by rw [← hne]; exact I.own
        have HP := hide (fun v' w' o n hown hn hg hw => TbI.push (v' := v') (w' := w') (o := o) (n := n) (nm := nm) I hown hn hg hw)
        have HF := hide (show (cat.take (i + 1)).filterMap hn = (cat.take i).filterMap hn ++ [nm] from by rw [unhide HT, List.filterMap_append]; congr 1; simp [List.filterMap_cons, unhide HHn])
        subst hne
        clear I HT HHn
        generalize (cat.take i).filterMap hn = out at *
        go_wp2_with fail
        refine (unhide CU).mono ?_
        rintro e w2 ⟨rfl, rfl⟩
        go_wp2_with (at_builtin; refine wpList_append2 _ rfl _ _ 49 rfl 9 i0 _ 1 16 Tryz.underlying49 hi0 hz0 hz1 hz2 rfl (by decide) _ _ _ rfl (own1.alloc _) ⟨wr.heap.size, 0, none⟩ 1 1 [.string nm] rfl rfl ?c1 ?c2 ?c3 ?c4 ?_)
        case c1 => exact news_ok _ [.string nm] 9 _ rfl
        case c2 => intro u hu; simp at hu; subst hu; rfl
        case c3 => unfold maxLen; omega
        case c4 => omega
        intro v' w' hown hgrow hwhere
        have HN2 := hide (unhide HP v' w' _ _ hown rfl hgrow hwhere)
        clear hown hgrow hwhere HP own1 CU
        go_wp2_with fail
        go_roundw
        case rel => exact ⟨i + 1, v', rfl, by go_num, by omega, by rw [unhide HF]; exact unhide HN2⟩
        case measure => simp [intOf]; omega
      · have b70 : ((j : Int) == 0) = false := by simp; omega
        have HF := hide (show (cat.take (i + 1)).filterMap hn = (cat.take i).filterMap hn from by rw [unhide HT, List.filterMap_append]; simp [List.filterMap_cons, unhide HHn, hj0])
        have HI := hide I
        clear I HT HHn hne CU hj0
        go_wp2_with fail
        go_roundw
        case rel => exact ⟨i + 1, _, rfl, by go_num, by omega, by rw [unhide HF]; exact unhide HI⟩
        case measure => simp [intOf]; omega
    · obtain rfl : i = cat.length := by omega
      have a1 : decide ((cat.length : Int) < (cat.length : Int)) = false := by simp
      have HI := hide I
      clear I
      go_wp2_with fail
      go_ret
      obtain ⟨_, nv, st1, o1⟩ := unhide HV
      have I := unhide HI
      rw [List.take_length, unhide HN] at I
      exact ⟨_, rfl, I.own, fun k hk => Nat.le_trans hs1 (I.fr k hk), st1.quiet I.on, o1.andS I.on⟩
end
end Go.Proofs.Qxb6500412aGreat
