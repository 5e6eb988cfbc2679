/-
  OWN WORK. THE INDEX: api's CheckFiles.
-/
import Derived.Test.Qxb6500416aIApi3
namespace Go.Proofs.Qxb6500416a
open Go.RowKit Go.PlainAid
set_option linter.unusedSimpArgs false
set_option linter.unusedVariables false

theorem Try.infoStr : (Try.prog.info? 9).map (fun i => (i.zero, i.size, i.bytes)) = some (some (.string ⟨#[]⟩), 1, 16) := by kernel_rfl
theorem StrsIn.keep {S : Nat → Prop} {w w' : World} {v : Value} {l : List ByteArray} (h : StrsIn w v l) (ho : Only S w w') (hS : ∀ k, v.ownBlock = some k → ¬ S k) : StrsIn w' v l := by
  obtain ⟨a, cap, rfl, h2⟩ := h
  refine ⟨a, cap, rfl, fun hn => ?_⟩
  obtain ⟨g, rfl, hc⟩ := h2 hn
  have hgl : g < w.heap.size := World.block_lt_of_cell? w _ (hc 0 hn)
  have hb := ho.block g hgl (hS g rfl)
  exact ⟨g, rfl, fun i hi => (World.cell?_of_block hb).trans (hc i hi)⟩

/-- A list of strings that grows. -/
structure SI (w : World) (ov : Value) (outl : List ByteArray) (wr : World) : Prop where
  own : OwnS wr ov outl
  hb : ∀ y, ov.ownBlock = some y → w.heap.size ≤ y
  ho : Only (fun _ => False) w wr
theorem SI.nil (w : World) : SI w (.slice none 0 0) [] w := ⟨World.ownsRow_nil _ _ _ _, fun y hy => by simp [Value.ownBlock] at hy, Only.refl _ _⟩
theorem SI.quiet {w : World} {ov : Value} {outl : List ByteArray} {wr w' : World} (h : SI w ov outl wr) (ho : Only (fun _ => False) wr w') : SI w ov outl w' :=
  ⟨ownsRow_keep h.own ho (fun _ _ h => h), h.hb, h.ho.trans ho (fun _ _ h => h)⟩
theorem SI.push {w : World} {ov v' : Value} {outl : List ByteArray} {wr w' : World} {o : Obj} {n : Nat} (h : SI w ov outl wr) (f : ByteArray) (hown : w'.ownsRow 0 9 1 v' n (outl.map Value.string ++ [.string f])) (hn : n = outl.length + 1)
    (hgrow : (wr.alloc o).grownBy w' ov.ownBlock) (hwhere : ∀ k, v'.ownBlock = some k → ov.ownBlock = some k ∨ k = wr.heap.size + 1) : SI w v' (outl ++ [f]) w' := by
  have hs := h.ho.size
  subst hn
  refine ⟨?_, fun y hy => ?_, (h.ho.alloc _).grown hgrow (fun b hb hlt => by have := h.hb b hb; omega)⟩
  · unfold OwnS
    rw [List.map_append, List.length_append]
    exact hown
  · rcases hwhere y hy with e | e
    · exact h.hb y e
    · omega

theorem rowErr_good {path : ByteArray} {mode : Int} {size : Nat} {prev : List ByteArray} (h : rowErr path mode size prev = 0) : goodB (ls path) = true := by
  unfold rowErr at h
  cases hg : goodB (ls path) with
  | true => rfl
  | false => rw [hg, if_pos rfl] at h; omega
theorem goodB_size {p : ByteArray} (h : goodB (ls p) = true) : 1 ≤ p.size ∧ p.size ≤ 12 := by
  unfold goodB at h
  simp only [Bool.and_eq_true] at h
  have := of_decide_eq_true h.1
  rw [ls_len] at this
  exact this

set_option maxRecDepth 100000 in
set_option maxHeartbeats 2000000 in
theorem checkFiles_any {w : World} (v : Value) (l : List Fl) (h : FilesIn w v l) :
    Calls Try.prog 52 #[v] w fun e w' => e = .returned (.int .i64 (checkF l : Nat)) ∧ Only (fun _ => False) w w' := by
  obtain ⟨a, cap, rfl, hc⟩ := h
  obtain ⟨i0, hi0, hz0, hz1, hz2⟩ := info_parts Try.infoStr
  unfold checkF
  by_cases h8 : 8 < l.length
  · rw [if_pos h8]
    have a1 : decide ((8 : Int) < (l.length : Int)) = true := by simp; omega
    clear hc
    go_enter Try.func52, Try.ntmps52
    go_wp2_with fail
    go_ret
    exact ⟨rfl, Only.refl _ _⟩
  · rw [if_neg h8]
    have a1 : decide ((8 : Int) < (l.length : Int)) = false := by simp; omega
    have hR : ∃ R, chkF l [] = R := ⟨_, rfl⟩
    obtain ⟨R, hR⟩ := hR
    rw [hR]
    have HR := hide hR
    have Hc := hide hc
    have H0 := hide (SI.nil w)
    clear hc hR
    go_enter Try.func52, Try.ntmps52
    go_wp2_with fail
    go_loopw [3, 4] (fun ov iv wr => ∃ (i : Nat) (prev : List ByteArray), i ≤ l.length ∧ iv = .int .i64 i ∧ prev.length = i ∧ R = chkF (l.drop i) prev ∧ (∀ q ∈ prev, q.size ≤ 12) ∧ SI w ov prev wr) (fun _ iv _ => l.length - (intOf iv).toNat)
    case atStart => exact ⟨0, [], by omega, rfl, rfl, by rw [← unhide HR]; rfl, fun q hq => by simp at hq, unhide H0⟩
    case round =>
      clear H0 HR
      obtain ⟨i, prev, hi, rfl, hpl, hRi, hq12, hI⟩ := hrel
      by_cases hil : i < l.length
      · obtain ⟨g, rfl, hcell⟩ := unhide Hc (by omega)
        obtain ⟨c0, c1, c2⟩ := hcell i hil
        have hgl : g < w.heap.size := World.block_lt_of_cell? w _ c0
        have hbk := hI.ho.block g hgl (fun h => h)
        have c0 := (World.cell?_of_block hbk).trans c0
        have c1 := (World.cell?_of_block hbk).trans c1
        have c2 := (World.cell?_of_block hbk).trans c2
        have b1 : decide ((i : Int) < (l.length : Int)) = true := by simp; omega
        have b2 : (i : Int) < (l.length : Int) := by omega
        have hdr : l.drop i = l[i] :: l.drop (i + 1) := List.drop_eq_getElem_cons hil
        have hws := hI.ho.size
        have hgw : g < wr.heap.size := by omega
        rw [hdr] at hRi
        clear hcell hbk hdr
        generalize l[i] = li at *
        have C1 := fun (n : Nat) => (checkRow_any li.path li.mode li.data.size _ prev ((hI.quiet ((Only.refl (fun _ => False) wr).drewO n)).own.in_) (by omega) hq12).mono (R' := fun e w' => e = .returned (.int .i64 (rowErr li.path li.mode li.data.size prev : Nat)) ∧ w' = wr.drewN n) (fun e w' h => ⟨h.1, h.2.symm⟩)
        have hRi' : R = if rowErr li.path li.mode li.data.size prev = 0 then chkF (l.drop (i + 1)) (prev ++ [li.path]) else rowErr li.path li.mode li.data.size prev := hRi
        have hgd := @rowErr_good li.path li.mode li.data.size prev
        generalize rowErr li.path li.mode li.data.size prev = er at *
        have C1 := hide C1
        have Hgd := hide hgd
        have HRi := hide hRi'
        have HI := hide hI
        have Hq := hide hq12
        clear hRi hRi' hgd hI hq12
        by_cases her : er = 0
        · subst her
          have h12 := (goodB_size (unhide Hgd rfl)).2
          go_wp2_with fail
          go_quiet (first | (go_at_call 62; refine Calls.quiet_of_same ((unhide C1) _)))
          have hQ := (unhide HI).quiet ((Only.refl (fun _ => False) wr).drewO nq)
          have hbk := ((Only.refl (fun _ => False) wr).drewO nq).block g hgw (fun h => h)
          have c0 := (World.cell?_of_block (a := ⟨g, i * 3, none⟩) hbk).trans c0
          have hsq := hQ.ho.size
          generalize wr.drewN nq = W1 at *
          have hgq : g < W1.heap.size := by omega
          have own4 : W1.ownsRow 0 9 1 _ _ _ := hQ.own
          have HQ := hide hQ
          clear hQ hbk c1 c2 C1
          go_wp2_with (at_builtin; refine wpList_append2 _ rfl _ _ 49 rfl 9 i0 _ 1 16 Try.underlying49 hi0 hz0 hz1 hz2 rfl (by decide) _ _ _ rfl (own4.alloc _) ⟨W1.heap.size, 0, none⟩ 1 1 [.string li.path] rfl rfl ?c1 ?c2 ?c3 ?c4 ?_)
          try (case c1 => exact news_ok _ _ _ _ rfl)
          case c2 => intro u hu; simp at hu; subst hu; rfl
          case c3 => unfold maxLen; omega
          case c4 => omega
          intro v4 w4 hown' hgrow hwhere
          have h4 := (unhide HQ).push li.path hown' (by first | rfl | omega | (simp; omega)) hgrow hwhere
          have H4 := hide h4
          clear hown' hgrow hwhere own4 HQ h4
          go_wp2_with fail
          go_roundw
          case rel =>
            refine ⟨i + 1, prev ++ [li.path], by omega, by go_num, by simp; omega, ?_, ?_, unhide H4⟩
            · have := unhide HRi
              simpa using this
            · intro q hq
              rw [List.mem_append] at hq
              rcases hq with hq | hq
              · exact unhide Hq q hq
              · simp at hq; rw [hq]; exact h12
          case measure => simp [intOf]; omega
        · have hRe : R = er := by
            have := unhide HRi
            rw [if_neg her] at this
            exact this
          have e1 : ((er : Int) != 0) = true := by simp; omega
          have HRe := hide hRe
          have hho := (unhide HI).ho
          clear hRe her
          go_wp2_with fail
          go_quiet (first | (go_at_call 62; refine Calls.quiet_of_same ((unhide C1) _)))
          go_wp2_with fail
          go_ret
          rw [unhide HRe]
          exact ⟨rfl, hho.drewO _⟩
      · obtain rfl : i = l.length := by omega
        have b1 : decide ((l.length : Int) < (l.length : Int)) = false := by simp
        rw [List.drop_length] at hRi
        have hR0 : R = 0 := hRi
        have HR0 := hide hR0
        have hho := hI.ho
        clear hRi hR0 hI hq12
        go_wp2_with fail
        go_ret
        rw [unhide HR0]
        exact ⟨rfl, hho⟩
end Go.Proofs.Qxb6500416a
