/-
  OWN WORK. THE LAW OF DIFF: Tweak, the hunk goes.
-/
import Derived.Test.Qxb6500416aDL22
import Derived.Test.Qxb6500416aDL23
namespace Go.Proofs.Qxb6500416a
open Go.RowKit Go.PlainAid
set_option linter.unusedSimpArgs false
set_option linter.unusedVariables false

theorem dsize_hk (W : World) : (sizeOf 62).run Try.prog W = .ok 3 W := by
  obtain ⟨i, hi, hz, hs, hb⟩ := info_parts Try.infoHunk
  simp [sizeOf, typeInfo, hi, hs]
theorem hrun_h (g n cap a : Nat) (ha : a ≤ cap) (W : World) :
    (Instr.slice 33 (.slice (some ⟨g, 0, none⟩) n cap) none (some (.int .i64 (a : Int))) none).run Try.prog W = .ok (.slice (some ⟨g, 0, none⟩) a cap) W := by
  have hu := Try.underlying33
  have h1 : (a : Int) ≤ (cap : Int) := by omega
  simp [Instr.slice, run_underlying hu, Instr.sliceBounds, run_sliceBound, h1, dsize_hk, Addr.add]
theorem hrun_l (g n cap i : Nat) (hi : i ≤ n) (W : World) :
    (Instr.slice 33 (.slice (some ⟨g, 0, none⟩) n cap) (some (.int .i64 (i : Int))) none none).run Try.prog W = .ok (.slice (if cap = i then some ⟨g, 0, none⟩ else some ⟨g, i * 3, none⟩) (n - i) (cap - i)) W := by
  have hu := Try.underlying33
  have h1 : (i : Int) ≤ (n : Int) := by omega
  simp [Instr.slice, run_underlying hu, Instr.sliceBounds, run_sliceBound, h1, dsize_hk, addr_add]
theorem hv_one : ∀ {w : World} {G : Nat → Prop} {hs : List HV} {p : List Hk}, HvOk w G hs p → ∀ u ∈ hvCells hs, u.oneCell' = true
  | w, G, [], [], _, u, hu => by simp [hvCells] at hu
  | w, G, h :: hs, k :: ks, hh, u, hu => by
    obtain ⟨a1, c1, e1⟩ := own_len hh.1.del
    obtain ⟨a2, c2, e2⟩ := own_len hh.1.ins
    simp only [hvCells, List.cons_append, List.nil_append, List.mem_cons] at hu
    rcases hu with hu | hu | hu | hu
    · subst hu; rfl
    · subst hu; rw [e1]; rfl
    · subst hu; rw [e2]; rfl
    · exact hv_one hh.2 u hu
  | w, G, [], k :: ks, hh, _, _ => hh.elim
  | w, G, h :: hs, [], hh, _, _ => hh.elim
set_option maxRecDepth 100000 in
set_option maxHeartbeats 8000000 in
theorem tweak_4 {B : Nat} {w : World} {l e g cap : Nat} {mp r0 r1 k0 k1 k2 k3 : Value} {tx : ByteArray} {hs : List HV} {p : List Hk} {A0 A1 : List Fl} {L : List Str} {F R M : Nat → Prop} (h : LS B w l e mp (.slice (some ⟨g, 0, none⟩) p.length cap) r0 r1 k0 k1 k2 k3 tx hs p A0 A1 L F R M) (a : Nat) (ha : a < p.length) (b : Int) (s : ByteArray) :
    Calls Try.prog 15 #[.pointer (some ⟨l, 0, none⟩), .int .i64 a, .int .i64 b, .int .i64 4, .string s] w fun x w' => x = .returned (.tuple #[]) ∧ Stp B l w w' := by
  have has : a < hs.length := by have := h.pat.len; omega
  obtain ⟨i0, hi0, hz0, hz1, hz2⟩ := info_parts Try.infoHunk
  obtain ⟨x, hx⟩ : ∃ x, x = wrap64 (p[a].at_ + b) := ⟨_, rfl⟩
  have hxr : -9223372036854775808 ≤ x ∧ x ≤ 9223372036854775807 := by
    rw [hx]
    exact wrap64_in _
  have b1 : decide ((a : Int) < 0) = false := decide_eq_false (by omega)
  have b2 : decide ((p.length : Int) ≤ (a : Int)) = false := decide_eq_false (by omega)
  have b3 : (a : Int) < (p.length : Int) := by omega
  obtain ⟨g', cap', _, ee, hgl, c0, c1, c3, hok⟩ := h.pat.at a ha
  obtain ⟨rfl, rfl⟩ : g = g' ∧ cap = cap' := by simpa using ee
  obtain ⟨cc, hgh⟩ := own_ty h.pat.1 g rfl
  have f0 := hgh.free (a * 3)
  have c2 := Has.cell h.lw 2
  have ll := Has.lt h.lw
  have hne : g ≠ l := Has.ne hgh h.lw (by decide)
  have h1 := h.at_ a ha has x hxr.1 hxr.2
  have o1 := donly1 (w := w) (p := g) (a * 3) (.int .i64 x)
  have hb : B ≤ g := h.bR g (h.pat.2.2 g rfl)
  have hlen : hs.length = p.length := h.pat.len
  have hpl : p.length ≤ 2049 := h.pb.len
  have hlp : (p.set a ⟨x, p[a].del, p[a].ins⟩).length = p.length := by simp
  have hlh : (hs.set a ⟨x, hs[a].dv, hs[a].iv⟩).length = p.length := by simp [hlen]
  have H := hide h
  have HG := hide (fun (W1 : World) (h1 : LS B W1 l e mp (.slice (some ⟨g, 0, none⟩) p.length cap) r0 r1 k0 k1 k2 k3 tx (hs.set a ⟨x, hs[a].dv, hs[a].iv⟩) (p.set a ⟨x, p[a].del, p[a].ins⟩) A0 A1 L F R M) => LS.gone (p := p.set a ⟨x, p[a].del, p[a].ins⟩) (cap := cap) (w := W1) (by rw [hlp]; exact h1) a (p.length - (a + 1)) (by rw [hlp]; exact ha) (by rw [hlp]; omega) W1.drew ((Only.refl _ W1).drew))
  have H1 := hide h1
  have O1 := hide o1
  generalize hs.set a ⟨x, hs[a].dv, hs[a].iv⟩ = hs1 at *
  generalize p.set a ⟨x, p[a].del, p[a].ins⟩ = p1 at *
  clear h h1 ee hgh hxr hok o1
  go_enter Try.func15, Try.ntmps15
  go_upto_region 14 with fail
  rw [← hx]
  generalize w.setCell ⟨g, a * 3, none⟩ (.int .i64 x) = W1 at *
  have o1z := (unhide O1).size
  have hgW : g < W1.heap.size := by omega
  obtain ⟨cg, hcg⟩ := own_ty (unhide H1).pat.1 g rfl
  have hrow : W1.ownsRow 0 62 3 (.slice (some ⟨g, 0, none⟩) p.length cap) p.length (hvCells hs1) := by have := (unhide H1).pat.1; rw [hlh] at this; exact this
  obtain ⟨hcap, hmax⟩ := row_cap hrow
  have hrc := World.ownsRow.cells hrow (g := g) rfl
  have hnl : (hvCells (hs1.drop (a + 1))).length = (p.length - (a + 1)) * 3 := by rw [hvCells_len]; simp [hlh]
  obtain ⟨A, hA, hnews⟩ : ∃ A : Addr, (if cap = a + 1 then some (⟨g, 0, none⟩ : Addr) else some ⟨g, (a + 1) * 3, none⟩) = some A ∧ Hid (∀ j u, (hvCells (hs1.drop (a + 1)))[j]? = some u → W1.drew.cell? (A.add j) = some u) := by
    by_cases hc : cap = a + 1
    · refine ⟨⟨g, 0, none⟩, by rw [if_pos hc], hide (fun j u hu => ?_)⟩
      have h0 : (hvCells (hs1.drop (a + 1))).length = 0 := by rw [hnl]; omega
      rw [List.length_eq_zero_iff.1 h0] at hu
      simp at hu
    · refine ⟨⟨g, (a + 1) * 3, none⟩, by rw [if_neg hc], hide (fun j u hu => ?_)⟩
      rw [hvCells_drop, List.getElem?_drop] at hu
      have := hrc _ _ hu
      rw [addr_add] at this
      rw [Addr.add_lit]
      exact this
  have hr1 := hrun_h g p.length cap a (by omega)
  have hr2 : ∀ W, (Instr.slice 33 (.slice (some ⟨g, 0, none⟩) p.length cap) (some (.int .i64 ((a : Int) + 1))) none none).run Try.prog W = .ok (.slice (some A) (p.length - (a + 1)) (cap - (a + 1))) W := fun W => by
    have := hrun_l g p.length cap (a + 1) (by omega) W
    rw [hA, Int.natCast_add] at this
    exact this
  have s2 : Hid (∀ u ∈ hvCells (hs1.drop (a + 1)), u.oneCell' = true) := hide (fun u hu => hv_one (unhide H1).pat.2.1 u (by rw [hvCells_drop] at hu; exact List.mem_of_mem_drop hu))
  have s3 : Hid (∀ j, j < (hvCells (hs1.drop (a + 1))).length → (W1.drew.cell? ⟨g, 0 + a * 3 + j, none⟩).isSome = true ∧ W1.drew.frozen? ⟨g, 0 + a * 3 + j, none⟩ = false) := hide (fun j hj => by
    rw [hnl] at hj
    have hj2 : a * 3 + j < (hvCells hs1).length := by rw [hvCells_len, hlh]; omega
    have := hrc (a * 3 + j) _ (List.getElem?_eq_getElem hj2)
    rw [addr_add] at this
    refine ⟨?_, hcg.free _⟩
    rw [Nat.zero_add]
    show (W1.cell? _).isSome = true
    rw [this]
    rfl)
  have s1 := hide hnl
  have hwr : IntKind.i64.wrap ((a : Int) + 1) = (a : Int) + 1 := by rw [IntKind.wrap_i64]; omega
  have hp0 : (0 : Int) ≤ (a : Int) + 1 := by omega
  have hp1 : (a : Int) + 1 ≤ (p.length : Int) := by omega
  have hp2 : ((a : Int) + 1).toNat = a + 1 := by omega
  have q2 := Has.cell (unhide H1).lw 2
  have ql := Has.lt (unhide H1).lw
  have y2 : (W1.drew.setCells g (0 + a * 3) (hvCells (hs1.drop (a + 1)))).cell? ⟨l, 2, none⟩ = some (.slice (some ⟨g, 0, none⟩) p.length cap) := (World.cell?_setCells_out g _ _ _ _ (fun e _ => absurd e (Ne.symm hne))).trans q2
  have yz : (W1.drew.setCells g (0 + a * 3) (hvCells (hs1.drop (a + 1)))).frozen? ⟨l, 2, none⟩ = false := (World.frozen?_setCells g _ _ _ _).trans (Has.free (unhide H1).lw 2)
  have RR : Hid (Stp B l w ((W1.drew.setCells g (0 + a * 3) (hvCells (hs1.drop (a + 1)))).setCell ⟨l, 2, none⟩ (.slice (some ⟨g, 0, none⟩) (a + (p.length - (a + 1))) cap))) := hide ⟨(unhide HG W1 (unhide H1)).1, ((unhide O1).mono (T := fun y => B ≤ y) (fun y _ e => by rw [e]; exact hb)).trans (unhide HG W1 (unhide H1)).2 (fun _ _ h => h)⟩
  rw [Nat.zero_add] at y2 yz RR
  clear hcg hrow hrc hnl hA c0 c1 c2 c3 f0 hlh hlp hlen
  generalize hvCells (hs1.drop (a + 1)) = news at *
  have hle : a + (p.length - (a + 1)) ≤ cap := by omega
  have hac : (a : Int) ≤ (cap : Int) := by omega
  go_region_law (refine step_append_room rfl (.tmp 155) (.tmp 162) 33 rfl 62 i0 3 Try.underlying33 hi0 hz1 g 0 a cap (by simp [Act.eval, Act.put]) A (p.length - (a + 1)) (cap - (a + 1)) news (by simp [Act.eval, Act.put]) s1.out hnews.out s2.out hle s3.out ?_)
  all_goals
    go_wp2_with fail
    go_end0
    exact ⟨rfl, unhide RR⟩
end Go.Proofs.Qxb6500416a
