/-
  OWN WORK. THE B-TREE LAW's GHOST: Without, SameKV, NewGhost.
-/
import Derived.Test.Qxb6500410aGreatBGl
namespace Go.Proofs.Qxb6500410aGreat
open Go.RowKit Go.PlainAid
set_option linter.unusedSimpArgs false
set_option linter.unusedVariables false

theorem Tryz.infoItm : (Tryz.prog.info? 72).map (fun i => (i.zero, i.size, i.bytes)) = some (some (.agg #[.int .i64 0, .string ⟨#[]⟩, .string ⟨#[]⟩]), 3, 40) := by kernel_rfl
/-- A list of items that grows. -/
structure GI (w : World) (ov : Value) (l : List Itm) (wr : World) : Prop where
  own : OwnI wr ov l
  hb : ∀ y, ov.ownBlock = some y → w.heap.size ≤ y
  ho : Only (fun _ => False) w wr
theorem GI.nil (w : World) : GI w (.slice none 0 0) [] w := ⟨OwnI.nil _, fun y hy => by simp [Value.ownBlock] at hy, Only.refl _ _⟩
theorem GI.push {w : World} {ov v' : Value} {l : List Itm} {wr w' : World} {o : Obj} {n : Nat} (h : GI w ov l wr) (f : Itm) (hown : w'.ownsRow 0 72 3 v' n (itCells l ++ [.int .i64 (f.h : Int), .string f.K, .string f.V])) (hn : n = l.length + 1)
    (hgrow : (wr.alloc o).grownBy w' ov.ownBlock) (hwhere : ∀ k, v'.ownBlock = some k → ov.ownBlock = some k ∨ k = wr.heap.size + 1) : GI w v' (l ++ [f]) w' := by
  have hs := h.ho.size
  subst hn
  refine ⟨?_, fun y hy => ?_, (h.ho.alloc _).grown hgrow (fun b hb hlt => by have := h.hb b hb; omega)⟩
  · unfold OwnI
    rw [itCells_snoc, List.length_append]
    exact hown
  · rcases hwhere y hy with e | e
    · exact h.hb y e
    · omega
/-- An item that goes. -/
def goes (h : Int) (k : ByteArray) (all : Bool) (x : Itm) : Bool := decide ((x.h : Int) = h) && (all || decide (x.K = k))
def woI (h : Int) (k : ByteArray) (all : Bool) (its : List Itm) : List Itm := its.filter (fun x => !goes h k all x)
theorem woI_step {h : Int} {k : ByteArray} {all : Bool} {its : List Itm} {i : Nat} {x : Itm} (hx : its[i]? = some x) : woI h k all (its.take (i + 1)) = woI h k all (its.take i) ++ (if goes h k all x then [] else [x]) := by
  obtain ⟨hi, rfl⟩ := List.getElem?_eq_some_iff.mp hx
  unfold woI
  rw [List.take_succ_eq_append_getElem hi, List.filter_append]
  congr 1
  cases hg : goes h k all its[i] <;> simp [hg]
section
variable {w : World} {g tb : Nat} {iv : Value} {T : Nat → Bool} {its : List Itm}
set_option maxRecDepth 100000 in
set_option maxHeartbeats 4000000 in
theorem gwithout_any (G : GhAt w g tb iv T its) (h : Int) (k : ByteArray) (all : Bool) : Calls Tryz.prog 95 #[.pointer (some ⟨g, 0, none⟩), .int .i64 h, .string k, .bool all] w fun e w' => e = .returned (.tuple #[]) ∧ ∃ iv', GhAt w' g tb iv' T (woI h k all its) ∧ (∀ y, iv'.ownBlock = some y → w.heap.size ≤ y) ∧ Only (fun y => y = g) w w' := by
  obtain ⟨i0, hi0, hz0, hz1, hz2⟩ := info_parts Tryz.infoItm
  obtain ⟨a, cap, rfl⟩ := G.own.shape
  have hl := G.len
  have HG := hide G
  clear G
  go_enter Tryz.func95, Tryz.ntmps95
  go_upto_region 2 with fail
  go_loopw [8, 9] (fun rv jv wr => ∃ (i : Nat), jv = .int .i64 i ∧ i ≤ its.length ∧ GI w rv (woI h k all (its.take i)) wr) (fun _ jv _ => 65 - (intOf jv).toNat)
  case atStart => exact ⟨0, rfl, Nat.zero_le _, by simpa [woI] using GI.nil w⟩
  case round =>
    obtain ⟨i, rfl, hi, I⟩ := hrel
    have G := (unhide HG).quiet I.ho
    have c1 := G.c1
    by_cases hs : i < its.length
    · have a1 : decide ((i : Int) < (its.length : Int)) = true := decide_eq_true (by omega)
      have a1p : (i : Int) < (its.length : Int) := by omega
      obtain ⟨x, hx⟩ := get_ex hs
      obtain ⟨ib, ha, d0, d1, d2⟩ := G.own.at_ hx
      subst ha
      have HS := hide hs
      have hstep := woI_step (h := h) (k := k) (all := all) hx
      have hlen : (woI h k all (its.take i)).length ≤ i := by
        have h1 := List.length_filter_le (fun x => !goes h k all x) (its.take i)
        rw [List.length_take] at h1
        unfold woI
        omega
      obtain ⟨ra, rc, rfl⟩ := I.own.shape
      have own1 : wr.ownsRow 0 72 3 (.slice ra (woI h k all (its.take i)).length rc) (woI h k all (its.take i)).length (itCells (woI h k all (its.take i))) := I.own
      have HI := hide I
      clear hx hs I G
      by_cases h1 : (x.h : Int) = h
      · subst h1
        have b1 : ((x.h : Int) == (x.h : Int)) = true := by simp
        cases all
        · by_cases h2 : x.K = k
          · have b2 := seq_t h2
            have hg : goes (x.h : Int) k false x = true := by simp [goes, h2]
            rw [hg] at hstep
            have I2 : Hid (GI w (.slice ra (woI (x.h : Int) k false (its.take i)).length rc) (woI (x.h : Int) k false (its.take (i + 1))) wr) := hide (by rw [hstep]; simpa using unhide HI)
            clear h2 hstep hg own1
            go_wp2_with fail
            go_roundw
            case rel => exact ⟨i + 1, by go_num, by have := unhide HS; omega, unhide I2⟩
            case measure => simp [intOf]; omega
          · have b2 := seq_f h2
            have hg : goes (x.h : Int) k false x = false := by simp [goes, h2]
            rw [hg] at hstep
            have HStep := hide hstep
            clear h2 hstep hg
            have HPush := hide (fun (v' : Value) (w' : World) o n hown hn hgrow hwh => GI.push (o := o) (n := n) (v' := v') (w' := w') (unhide HI) x hown hn hgrow hwh)
            go_wp2_with (at_builtin; refine wpList_append2 _ rfl _ _ 63 rfl 72 i0 _ 3 40 Tryz.underlying63 hi0 hz0 hz1 hz2 rfl (by decide) _ _ _ rfl (own1.alloc _) ⟨wr.heap.size, 0, none⟩ 1 1 [.int .i64 (x.h : Int), .string x.K, .string x.V] rfl rfl ?c1 ?c2 ?c3 ?c4 ?_)
            case c1 => exact news_ok _ _ _ _ rfl
            case c2 => intro u hu; simp at hu; rcases hu with rfl | rfl | rfl <;> rfl
            case c3 => unfold maxLen; omega
            case c4 => omega
            intro v' w' hown hgrow hwhere
            have HN0 := unhide HPush v' w' _ _ hown rfl hgrow hwhere
            have HN := hide (show GI w v' (woI (x.h : Int) k false (its.take (i + 1))) w' from by rw [unhide HStep]; exact HN0)
            clear hown hgrow hwhere own1 HPush HN0
            go_wp2_with fail
            go_roundw
            case rel => exact ⟨i + 1, by go_num, by have := unhide HS; omega, unhide HN⟩
            case measure => simp [intOf]; omega
        · have hg : goes (x.h : Int) k true x = true := by simp [goes]
          rw [hg] at hstep
          have I2 : Hid (GI w (.slice ra (woI (x.h : Int) k true (its.take i)).length rc) (woI (x.h : Int) k true (its.take (i + 1))) wr) := hide (by rw [hstep]; simpa using unhide HI)
          clear hstep hg own1
          go_wp2_with fail
          go_roundw
          case rel => exact ⟨i + 1, by go_num, by have := unhide HS; omega, unhide I2⟩
          case measure => simp [intOf]; omega
      · have b1 : ((x.h : Int) == h) = false := by simpa using h1
        have hg : goes h k all x = false := by simp [goes, h1]
        rw [hg] at hstep
        have HStep := hide hstep
        clear hstep hg
        cases all
        · by_cases h2 : x.K = k
          · have b2 := seq_t h2
            clear h2
            have HPush := hide (fun (v' : Value) (w' : World) o n hown hn hgrow hwh => GI.push (o := o) (n := n) (v' := v') (w' := w') (unhide HI) x hown hn hgrow hwh)
            go_wp2_with (at_builtin; refine wpList_append2 _ rfl _ _ 63 rfl 72 i0 _ 3 40 Tryz.underlying63 hi0 hz0 hz1 hz2 rfl (by decide) _ _ _ rfl (own1.alloc _) ⟨wr.heap.size, 0, none⟩ 1 1 [.int .i64 (x.h : Int), .string x.K, .string x.V] rfl rfl ?c1 ?c2 ?c3 ?c4 ?_)
            case c1 => exact news_ok _ _ _ _ rfl
            case c2 => intro u hu; simp at hu; rcases hu with rfl | rfl | rfl <;> rfl
            case c3 => unfold maxLen; omega
            case c4 => omega
            intro v' w' hown hgrow hwhere
            have HN0 := unhide HPush v' w' _ _ hown rfl hgrow hwhere
            have HN := hide (show GI w v' (woI h k false (its.take (i + 1))) w' from by rw [unhide HStep]; exact HN0)
            clear hown hgrow hwhere own1 HPush HN0
            go_wp2_with fail
            go_roundw
            case rel => exact ⟨i + 1, by go_num, by have := unhide HS; omega, unhide HN⟩
            case measure => simp [intOf]; omega
          · have b2 := seq_f h2
            clear h2
            have HPush := hide (fun (v' : Value) (w' : World) o n hown hn hgrow hwh => GI.push (o := o) (n := n) (v' := v') (w' := w') (unhide HI) x hown hn hgrow hwh)
            go_wp2_with (at_builtin; refine wpList_append2 _ rfl _ _ 63 rfl 72 i0 _ 3 40 Tryz.underlying63 hi0 hz0 hz1 hz2 rfl (by decide) _ _ _ rfl (own1.alloc _) ⟨wr.heap.size, 0, none⟩ 1 1 [.int .i64 (x.h : Int), .string x.K, .string x.V] rfl rfl ?c1 ?c2 ?c3 ?c4 ?_)
            case c1 => exact news_ok _ _ _ _ rfl
            case c2 => intro u hu; simp at hu; rcases hu with rfl | rfl | rfl <;> rfl
            case c3 => unfold maxLen; omega
            case c4 => omega
            intro v' w' hown hgrow hwhere
            have HN0 := unhide HPush v' w' _ _ hown rfl hgrow hwhere
            have HN := hide (show GI w v' (woI h k false (its.take (i + 1))) w' from by rw [unhide HStep]; exact HN0)
            clear hown hgrow hwhere own1 HPush HN0
            go_wp2_with fail
            go_roundw
            case rel => exact ⟨i + 1, by go_num, by have := unhide HS; omega, unhide HN⟩
            case measure => simp [intOf]; omega
        · skip
          have HPush := hide (fun (v' : Value) (w' : World) o n hown hn hgrow hwh => GI.push (o := o) (n := n) (v' := v') (w' := w') (unhide HI) x hown hn hgrow hwh)
          go_wp2_with (at_builtin; refine wpList_append2 _ rfl _ _ 63 rfl 72 i0 _ 3 40 Tryz.underlying63 hi0 hz0 hz1 hz2 rfl (by decide) _ _ _ rfl (own1.alloc _) ⟨wr.heap.size, 0, none⟩ 1 1 [.int .i64 (x.h : Int), .string x.K, .string x.V] rfl rfl ?c1 ?c2 ?c3 ?c4 ?_)
          case c1 => exact news_ok _ _ _ _ rfl
          case c2 => intro u hu; simp at hu; rcases hu with rfl | rfl | rfl <;> rfl
          case c3 => unfold maxLen; omega
          case c4 => omega
          intro v' w' hown hgrow hwhere
          have HN0 := unhide HPush v' w' _ _ hown rfl hgrow hwhere
          have HN := hide (show GI w v' (woI h k true (its.take (i + 1))) w' from by rw [unhide HStep]; exact HN0)
          clear hown hgrow hwhere own1 HPush HN0
          go_wp2_with fail
          go_roundw
          case rel => exact ⟨i + 1, by go_num, by have := unhide HS; omega, unhide HN⟩
          case measure => simp [intOf]; omega
    · have a1 : decide ((i : Int) < (its.length : Int)) = false := decide_eq_false (by omega)
      have a1p : ¬ ((i : Int) < (its.length : Int)) := by omega
      have e : i = its.length := by omega
      subst e
      rw [List.take_length] at I
      have I0 := I
      have z1 := G.has.free 1
      have hle : (woI h k all its).length ≤ 64 := Nat.le_trans (List.length_filter_le _ _) hl
      have hne := ownsRow_ne I.own G.has (by decide)
      have FF := hide (And.intro I (And.intro G (And.intro hle hne)))
      clear I G hle hne
      obtain ⟨ra, rc, hrv⟩ := I0.own.shape
      subst hrv
      go_wp2_with fail
      refine bodyPost_end (v := .tuple #[]) (by simp [results, Tryz.results95, go_sem]) rfl ?_
      obtain ⟨I, G, hle, hne⟩ := unhide FF
      have oS : Only (fun y => y = g) wr (wr.setCell ⟨g, 1, none⟩ (.slice ra (woI h k all its).length rc)) := only1 _ _
      have gtb : tb ≠ g := G.tr.ne G.has (by decide)
      refine ⟨rfl, _, ⟨G.has.setCell 1 _, G.tr.keep oS gtb, I.own.keep oS (fun y hy e => hne y hy e), hle⟩, I.hb, I.ho.up.trans oS (fun _ _ h => h)⟩
end
end Go.Proofs.Qxb6500410aGreat
