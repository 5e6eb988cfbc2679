/-
  OWN WORK. THE TREE: a row is laid behind a tree's bytes.
-/
import Derived.Test.Qxb6500417aGreatTLeaf
import Derived.Test.Qxb6500417aGreatOLeaf
import Derived.Test.Qxb6500417aGreatOBuck
namespace Go.Proofs.Qxb6500417aGreat
open Go.RowKit Go.PlainAid
set_option linter.unusedSimpArgs false
set_option linter.unusedVariables false

theorem Tryz.tinfoU8 : (Tryz.prog.info? 5).map (fun i => (i.zero, i.size, i.bytes)) = some (some (.int .u8 0), 1, 1) := by kernel_rfl
def uV (l : List Nat) : List Value := l.map (fun (b : Nat) => Value.int .u8 (b : Int))
theorem uV_len (l : List Nat) : (uV l).length = l.length := by simp [uV]
theorem uV_app (a b : List Nat) : uV a ++ uV b = uV (a ++ b) := by simp [uV]
def OwnU (w : World) (v : Value) (l : List Nat) : Prop := w.ownsRow 0 5 1 v l.length (uV l)
theorem OwnU.keep {S : Nat → Prop} {w w' : World} {v : Value} {l : List Nat} (h : OwnU w v l) (ho : Only S w w') (hS : ∀ k, v.ownBlock = some k → ¬ S k) : OwnU w' v l := ownsRow_keep h ho hS
theorem OwnU.at_ {w : World} {v : Value} {l : List Nat} (h : OwnU w v l) : BytesAt w v l.length (dF l) := by
  obtain ⟨a, cap, rfl⟩ := ownsRow_shape h
  refine ⟨a, cap, rfl, fun hn => ?_⟩
  rcases h.2 with ⟨he, h0⟩ | ⟨g, cap', cur, he, _⟩
  · omega
  · obtain ⟨rfl, _, _⟩ : a = some ⟨g, 0, none⟩ ∧ True ∧ cap = cap' := by simpa using he
    refine ⟨g, rfl, fun j hj => ?_⟩
    have hc := World.ownsRow.cells h (g := g) (by first | exact rfl | simp [Value.ownBlock])
    have b1 := hc j (.int .u8 (dF l j : Int)) (by
      unfold uV dF
      rw [List.getElem?_map, List.getElem?_eq_getElem hj, List.getD_eq_getElem?_getD, List.getElem?_eq_getElem hj]
      rfl)
    rw [addr_add] at b1
    exact b1
/-- Bytes that grow. -/
structure UI (w : World) (v0 : Value) (ov : Value) (l : List Nat) (wr : World) : Prop where
  own : OwnU wr ov l
  hb : ∀ y, ov.ownBlock = some y → v0.ownBlock = some y ∨ w.heap.size ≤ y
  ho : Only (fun y => v0.ownBlock = some y) w wr
theorem UI.start {w : World} {v : Value} {l : List Nat} (h : OwnU w v l) : UI w v v l w := ⟨h, fun y hy => .inl hy, Only.refl _ _⟩
theorem UI.trans {w : World} {v0 ov v' : Value} {l m : List Nat} {wr w' : World} (h : UI w v0 ov l wr) (h' : UI wr ov v' m w') : UI w v0 v' m w' := by
  have hs := h.ho.size
  refine ⟨h'.own, fun y hy => ?_, h.ho.trans h'.ho (fun y hy e => ?_)⟩
  · rcases h'.hb y hy with e | e
    · exact h.hb y e
    · exact .inr (by omega)
  · rcases h.hb y e with e | e
    · exact e
    · omega
theorem UI.quiet {w : World} {v0 ov : Value} {l : List Nat} {wr w' : World} (h : UI w v0 ov l wr) (ho : Only (fun _ => False) wr w') : UI w v0 ov l w' :=
  ⟨h.own.keep ho (fun _ _ h => h), h.hb, h.ho.trans ho (fun _ _ h => h.elim)⟩
theorem UI.push {w : World} {v0 ov v' : Value} {l m : List Nat} {wr w' : World} {o : Obj} {n : Nat} (h : UI w v0 ov l wr) (hown : w'.ownsRow 0 5 1 v' n (uV l ++ uV m)) (hn : n = l.length + m.length)
    (hgrow : (wr.alloc o).grownBy w' ov.ownBlock) (hwhere : ∀ k, v'.ownBlock = some k → ov.ownBlock = some k ∨ k = wr.heap.size + 1) : UI w v0 v' (l ++ m) w' := by
  subst hn
  have hs := h.ho.size
  refine h.trans ⟨?_, fun y hy => ?_, ((Only.refl (fun y => ov.ownBlock = some y) wr).alloc o).grown hgrow (fun y hy _ => hy)⟩
  · unfold OwnU
    rw [← uV_app, List.length_append]
    exact hown
  · rcases hwhere y hy with e | e
    · exact .inl e
    · exact .inr (by omega)
set_option maxRecDepth 100000 in
set_option maxHeartbeats 2000000 in
theorem appendRow_any {w : World} {v : Value} {l : List Nat} (h : OwnU w v l) (hd id : Nat) (name : Str) (h1 : hd < 256) (h2 : id < 256) (h3 : name.length < 256) (hl : l.length ≤ 1000000) :
    Calls Tryz.prog 185 #[v, .int .i64 hd, .int .i64 id, .string (sb name)] w fun e w' => ∃ v', e = .returned v' ∧ UI w v v' (l ++ hd :: id :: name.length :: name.map (fun c => c.toNat)) w' := by
  obtain ⟨j0, hj0, hy0, hy1, hy2⟩ := info_parts Tryz.tinfoU8
  have H0 := hide (UI.start h)
  have own : w.ownsRow 0 5 1 v l.length (uV l) := h
  have c1 : IntKind.u8.wrap (hd : Int) = (hd : Int) := by rw [IntKind.wrap_u8]; omega
  have c2 : IntKind.u8.wrap (id : Int) = (id : Int) := by rw [IntKind.wrap_u8]; omega
  have c3 : IntKind.u8.wrap (name.length : Int) = (name.length : Int) := by rw [IntKind.wrap_u8]; omega
  have hsz := sb_size name
  have hbt := get_bt (sb name)
  obtain ⟨va, vc, rfl⟩ := ownsRow_shape h
  clear h
  go_enter Tryz.func185, Tryz.ntmps185
  go_wp2_with (at_builtin; refine wpList_append2 _ rfl _ _ 90 rfl 5 j0 _ 1 1 Tryz.underlying90 hj0 hy0 hy1 hy2 rfl (by decide) _ _ _ rfl (own.alloc _) ⟨w.heap.size, 0, none⟩ 3 3 (uV [hd, id, name.length]) rfl rfl ?c1 ?c2 ?c3 ?c4 ?_)
  try (case c1 => exact news_ok _ _ _ _ rfl)
  case c2 => intro u hu; simp [uV] at hu; rcases hu with rfl | rfl | rfl <;> rfl
  case c3 => unfold maxLen; omega
  case c4 => omega
  intro v1 w1 hown hgrow hwhere
  have h1' := (unhide H0).push (m := [hd, id, name.length]) hown rfl hgrow hwhere
  have H1 := hide h1'
  clear hown hgrow hwhere own H0 h1'
  go_wp2_with fail
  go_loopw [0, 9] (fun ov iv wr => ∃ i : Nat, iv = .int .i64 i ∧ i ≤ name.length ∧ UI w (.slice va l.length vc) ov ((l ++ [hd, id, name.length]) ++ (name.take i).map (fun c => c.toNat)) wr) (fun _ iv _ => name.length - (intOf iv).toNat)
  case atStart => exact ⟨0, rfl, by omega, by simpa using unhide H1⟩
  case round =>
    clear H1
    obtain ⟨i, rfl, hi, hI⟩ := hrel
    by_cases hil : i < name.length
    · have a1 : decide ((i : Int) < (name.length : Int)) = true := decide_eq_true (by omega)
      have a1n : decide (i < name.length) = true := decide_eq_true hil
      have a2 : (i : Int) < (name.length : Int) := by omega
      obtain ⟨c, hc, hdr⟩ := ls_at (sb name) i (by omega)
      rw [ls_sb] at hdr
      have hsn : (name.take (i + 1)).map (fun c => c.toNat) = (name.take i).map (fun c => c.toNat) ++ [c.toNat] := by
        rw [List.take_succ_eq_append_getElem hil]
        have : name[i] = c := by
          rw [List.drop_eq_getElem_cons hil] at hdr
          exact (List.cons.inj hdr).1
        simp [this]
      have hlen : ((l ++ [hd, id, name.length]) ++ (name.take i).map (fun c => c.toNat)).length ≤ 1000000 + 3 + 256 := by simp; omega
      have own2 : wr.ownsRow 0 5 1 _ _ _ := hI.own
      obtain ⟨oa, oc, rfl⟩ := ownsRow_shape hI.own
      have HI := hide hI
      have Hsn := hide hsn
      clear hI hdr hsn
      generalize hL : (l ++ [hd, id, name.length]) ++ (name.take i).map (fun c => c.toNat) = L at *
      have HL := hide hL
      clear hL
      go_wp2_with (at_builtin; refine wpList_append2 _ rfl _ _ 90 rfl 5 j0 _ 1 1 Tryz.underlying90 hj0 hy0 hy1 hy2 rfl (by decide) _ _ _ rfl (own2.alloc _) ⟨wr.heap.size, 0, none⟩ 1 1 (uV [c.toNat]) rfl rfl ?d1 ?d2 ?d3 ?d4 ?_)
      try (case d1 => exact news_ok _ _ _ _ rfl)
      case d2 => intro u hu; simp [uV] at hu; subst hu; rfl
      case d3 => unfold maxLen; omega
      case d4 => omega
      intro v2 w2 hown hgrow hwhere
      have h2' := (unhide HI).push (m := [c.toNat]) hown rfl hgrow hwhere
      have H2 := hide h2'
      clear hown hgrow hwhere own2 HI h2'
      go_wp2_with fail
      go_roundw
      case rel => exact ⟨i + 1, by go_num, by omega, by rw [unhide Hsn, ← List.append_assoc, unhide HL]; exact unhide H2⟩
      case measure => simp [intOf]; omega
    · have a1 : decide ((i : Int) < (name.length : Int)) = false := decide_eq_false (by omega)
      have a1n : decide (i < name.length) = false := decide_eq_false hil
      have e1 : i = name.length := by omega
      subst e1
      rw [List.take_length] at hI
      have HI := hide hI
      clear hI
      go_wp2_with fail
      go_ret
      refine ⟨_, rfl, ?_⟩
      have := unhide HI
      simpa using this
end Go.Proofs.Qxb6500417aGreat
