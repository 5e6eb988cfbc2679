/-
  OWN WORK. THE PAGER LAW's REFINEMENT: Play.
-/
import Derived.Test.Qxb6500411aGreatVSame
namespace Go.Proofs.Qxb6500411aGreat
open Go.RowKit
set_option linter.unusedSimpArgs false
set_option linter.unusedVariables false

section
variable {w : World} {p l d q : Nat} {blk base : List ByteArray} {recs : List (Nat × ByteArray)} {op : Bool} {com view : List ByteArray} {uc : List Bool} {pc : List ByteArray} {um : List Bool} {pm : List ByteArray} {F G H : Nat → Prop}

set_option maxRecDepth 100000 in
theorem rplay1 (a b cc : Int) (s t : ByteArray) (see : Bool) (hs : s.size ≤ maxLen) (j : JR w p l d q blk base recs op com view uc pc um pm none F G H) (hrc : recs.length ≤ 100) :
    Calls Tryz.prog 19 #[.pointer (some ⟨p, 0, none⟩), .pointer (some ⟨q, 0, none⟩), belowV d l, .agg #[.int .i64 1, .int .i64 a, .int .i64 b, .int .i64 cc, .string s, .string t], .bool see] w fun e w' => e = .returned (.bool true) ∧ RP w p l d q base F G H blk recs op com 1 w' := by
  have o0 : Only (fun _ => False) w ((w.alloc (.cells (belowC d l) 30)).alloc (.cells #[.int .i64 1, .int .i64 a, .int .i64 b, .int .i64 cc, .string s, .string t] 40)) := ((Only.refl _ w).alloc _).alloc _
  have kv : Has ((w.alloc (.cells (belowC d l) 30)).alloc (.cells #[.int .i64 1, .int .i64 a, .int .i64 b, .int .i64 cc, .string s, .string t] 40)) w.heap.size (belowC d l) 30 := (Has.new w _ _).alloc _
  have ko : Has ((w.alloc (.cells (belowC d l) 30)).alloc (.cells #[.int .i64 1, .int .i64 a, .int .i64 b, .int .i64 cc, .string s, .string t] 40)) (w.heap.size + 1) #[.int .i64 1, .int .i64 a, .int .i64 b, .int .i64 cc, .string s, .string t] 40 := Has.new' _ _ _ _ (by simp)
  have j0 := j.keep o0
  have C1 : Calls Tryz.prog 38 #[.pointer (some ⟨p, 0, none⟩), .pointer (some ⟨q, 0, none⟩)] ((w.alloc (.cells (belowC d l) 30)).alloc (.cells #[.int .i64 1, .int .i64 a, .int .i64 b, .int .i64 cc, .string s, .string t] 40)) fun e w' => e = .returned (.bool true) ∧ RP w p l d q base F G H blk recs op com 1 w' := by
    exact (rsame_begin 1 j0).mono fun e w' ⟨x, y⟩ => ⟨x, RP.pre o0 y⟩
  unfold belowC at C1 o0 kv ko
  have C1 := hide C1
  have v0 := kv.cell 0
  have v1 := kv.cell 1
  have r1 := ko.cell 1
  have r4 := ko.cell 4
  unfold belowV
  clear j j0
  go_enter Tryz.func19, Tryz.ntmps19
  go_wp2_with fail
  refine (unhide C1).mono ?_
  rintro e w1 ⟨rfl, h1⟩
  go_wp2_with fail
  go_ret
  exact ⟨rfl, h1⟩

set_option maxRecDepth 100000 in
theorem rplay2 (a b cc : Int) (s t : ByteArray) (see : Bool) (hs : s.size ≤ maxLen) (j : JR w p l d q blk base recs op com view uc pc um pm none F G H) (hrc : recs.length ≤ 100) :
    Calls Tryz.prog 19 #[.pointer (some ⟨p, 0, none⟩), .pointer (some ⟨q, 0, none⟩), belowV d l, .agg #[.int .i64 2, .int .i64 a, .int .i64 b, .int .i64 cc, .string s, .string t], .bool see] w fun e w' => e = .returned (.bool true) ∧ RP w p l d q base F G H blk recs op com 2 w' := by
  have o0 : Only (fun _ => False) w ((w.alloc (.cells (belowC d l) 30)).alloc (.cells #[.int .i64 2, .int .i64 a, .int .i64 b, .int .i64 cc, .string s, .string t] 40)) := ((Only.refl _ w).alloc _).alloc _
  have kv : Has ((w.alloc (.cells (belowC d l) 30)).alloc (.cells #[.int .i64 2, .int .i64 a, .int .i64 b, .int .i64 cc, .string s, .string t] 40)) w.heap.size (belowC d l) 30 := (Has.new w _ _).alloc _
  have ko : Has ((w.alloc (.cells (belowC d l) 30)).alloc (.cells #[.int .i64 2, .int .i64 a, .int .i64 b, .int .i64 cc, .string s, .string t] 40)) (w.heap.size + 1) #[.int .i64 2, .int .i64 a, .int .i64 b, .int .i64 cc, .string s, .string t] 40 := Has.new' _ _ _ _ (by simp)
  have j0 := j.keep o0
  have C1 : Calls Tryz.prog 39 #[.pointer (some ⟨p, 0, none⟩), .pointer (some ⟨q, 0, none⟩)] ((w.alloc (.cells (belowC d l) 30)).alloc (.cells #[.int .i64 2, .int .i64 a, .int .i64 b, .int .i64 cc, .string s, .string t] 40)) fun e w' => e = .returned (.bool true) ∧ RP w p l d q base F G H blk recs op com 2 w' := by
    exact (rsame_commit j0 hrc).mono fun e w' ⟨x, y⟩ => ⟨x, RP.pre o0 y⟩
  unfold belowC at C1 o0 kv ko
  have C1 := hide C1
  have v0 := kv.cell 0
  have v1 := kv.cell 1
  have r1 := ko.cell 1
  have r4 := ko.cell 4
  unfold belowV
  clear j j0
  go_enter Tryz.func19, Tryz.ntmps19
  go_wp2_with fail
  refine (unhide C1).mono ?_
  rintro e w1 ⟨rfl, h1⟩
  go_wp2_with fail
  go_ret
  exact ⟨rfl, h1⟩

set_option maxRecDepth 100000 in
theorem rplay3 (a b cc : Int) (s t : ByteArray) (see : Bool) (hs : s.size ≤ maxLen) (j : JR w p l d q blk base recs op com view uc pc um pm none F G H) (hrc : recs.length ≤ 100) :
    Calls Tryz.prog 19 #[.pointer (some ⟨p, 0, none⟩), .pointer (some ⟨q, 0, none⟩), belowV d l, .agg #[.int .i64 3, .int .i64 a, .int .i64 b, .int .i64 cc, .string s, .string t], .bool see] w fun e w' => e = .returned (.bool true) ∧ RP w p l d q base F G H blk recs op com 3 w' := by
  have o0 : Only (fun _ => False) w ((w.alloc (.cells (belowC d l) 30)).alloc (.cells #[.int .i64 3, .int .i64 a, .int .i64 b, .int .i64 cc, .string s, .string t] 40)) := ((Only.refl _ w).alloc _).alloc _
  have kv : Has ((w.alloc (.cells (belowC d l) 30)).alloc (.cells #[.int .i64 3, .int .i64 a, .int .i64 b, .int .i64 cc, .string s, .string t] 40)) w.heap.size (belowC d l) 30 := (Has.new w _ _).alloc _
  have ko : Has ((w.alloc (.cells (belowC d l) 30)).alloc (.cells #[.int .i64 3, .int .i64 a, .int .i64 b, .int .i64 cc, .string s, .string t] 40)) (w.heap.size + 1) #[.int .i64 3, .int .i64 a, .int .i64 b, .int .i64 cc, .string s, .string t] 40 := Has.new' _ _ _ _ (by simp)
  have j0 := j.keep o0
  have C1 : Calls Tryz.prog 40 #[.pointer (some ⟨p, 0, none⟩), .pointer (some ⟨q, 0, none⟩)] ((w.alloc (.cells (belowC d l) 30)).alloc (.cells #[.int .i64 3, .int .i64 a, .int .i64 b, .int .i64 cc, .string s, .string t] 40)) fun e w' => e = .returned (.bool true) ∧ RP w p l d q base F G H blk recs op com 3 w' := by
    exact (rsame_abort 3 j0).mono fun e w' ⟨x, y⟩ => ⟨x, RP.pre o0 y⟩
  unfold belowC at C1 o0 kv ko
  have C1 := hide C1
  have v0 := kv.cell 0
  have v1 := kv.cell 1
  have r1 := ko.cell 1
  have r4 := ko.cell 4
  unfold belowV
  clear j j0
  go_enter Tryz.func19, Tryz.ntmps19
  go_wp2_with fail
  refine (unhide C1).mono ?_
  rintro e w1 ⟨rfl, h1⟩
  go_wp2_with fail
  go_ret
  exact ⟨rfl, h1⟩

set_option maxRecDepth 100000 in
theorem rplay4 (a b cc : Int) (s t : ByteArray) (see : Bool) (hs : s.size ≤ maxLen) (j : JR w p l d q blk base recs op com view uc pc um pm none F G H) (hrc : recs.length ≤ 100) :
    Calls Tryz.prog 19 #[.pointer (some ⟨p, 0, none⟩), .pointer (some ⟨q, 0, none⟩), belowV d l, .agg #[.int .i64 4, .int .i64 a, .int .i64 b, .int .i64 cc, .string s, .string t], .bool see] w fun e w' => e = .returned (.bool true) ∧ RP w p l d q base F G H blk recs op com 4 w' := by
  have o0 : Only (fun _ => False) w ((w.alloc (.cells (belowC d l) 30)).alloc (.cells #[.int .i64 4, .int .i64 a, .int .i64 b, .int .i64 cc, .string s, .string t] 40)) := ((Only.refl _ w).alloc _).alloc _
  have kv : Has ((w.alloc (.cells (belowC d l) 30)).alloc (.cells #[.int .i64 4, .int .i64 a, .int .i64 b, .int .i64 cc, .string s, .string t] 40)) w.heap.size (belowC d l) 30 := (Has.new w _ _).alloc _
  have ko : Has ((w.alloc (.cells (belowC d l) 30)).alloc (.cells #[.int .i64 4, .int .i64 a, .int .i64 b, .int .i64 cc, .string s, .string t] 40)) (w.heap.size + 1) #[.int .i64 4, .int .i64 a, .int .i64 b, .int .i64 cc, .string s, .string t] 40 := Has.new' _ _ _ _ (by simp)
  have j0 := j.keep o0
  have C1 : Calls Tryz.prog 41 #[.pointer (some ⟨p, 0, none⟩), .pointer (some ⟨q, 0, none⟩), .bool see] ((w.alloc (.cells (belowC d l) 30)).alloc (.cells #[.int .i64 4, .int .i64 a, .int .i64 b, .int .i64 cc, .string s, .string t] 40)) fun e w' => e = .returned (.bool true) ∧ RP w p l d q base F G H blk recs op com 4 w' := by
    exact (rsame_alloc 4 see j0).mono fun e w' ⟨x, y⟩ => ⟨x, RP.pre o0 y⟩
  unfold belowC at C1 o0 kv ko
  have C1 := hide C1
  have v0 := kv.cell 0
  have v1 := kv.cell 1
  have r1 := ko.cell 1
  have r4 := ko.cell 4
  unfold belowV
  clear j j0
  go_enter Tryz.func19, Tryz.ntmps19
  go_wp2_with fail
  refine (unhide C1).mono ?_
  rintro e w1 ⟨rfl, h1⟩
  go_wp2_with fail
  go_ret
  exact ⟨rfl, h1⟩

set_option maxRecDepth 100000 in
theorem rplay5 (a b cc : Int) (s t : ByteArray) (see : Bool) (hs : s.size ≤ maxLen) (j : JR w p l d q blk base recs op com view uc pc um pm none F G H) (hrc : recs.length ≤ 100) :
    Calls Tryz.prog 19 #[.pointer (some ⟨p, 0, none⟩), .pointer (some ⟨q, 0, none⟩), belowV d l, .agg #[.int .i64 5, .int .i64 a, .int .i64 b, .int .i64 cc, .string s, .string t], .bool see] w fun e w' => e = .returned (.bool true) ∧ RP w p l d q base F G H blk recs op com 5 w' := by
  have o0 : Only (fun _ => False) w ((w.alloc (.cells (belowC d l) 30)).alloc (.cells #[.int .i64 5, .int .i64 a, .int .i64 b, .int .i64 cc, .string s, .string t] 40)) := ((Only.refl _ w).alloc _).alloc _
  have kv : Has ((w.alloc (.cells (belowC d l) 30)).alloc (.cells #[.int .i64 5, .int .i64 a, .int .i64 b, .int .i64 cc, .string s, .string t] 40)) w.heap.size (belowC d l) 30 := (Has.new w _ _).alloc _
  have ko : Has ((w.alloc (.cells (belowC d l) 30)).alloc (.cells #[.int .i64 5, .int .i64 a, .int .i64 b, .int .i64 cc, .string s, .string t] 40)) (w.heap.size + 1) #[.int .i64 5, .int .i64 a, .int .i64 b, .int .i64 cc, .string s, .string t] 40 := Has.new' _ _ _ _ (by simp)
  have j0 := j.keep o0
  have C1 : Calls Tryz.prog 42 #[.pointer (some ⟨p, 0, none⟩), .pointer (some ⟨q, 0, none⟩), .int .i64 a] ((w.alloc (.cells (belowC d l) 30)).alloc (.cells #[.int .i64 5, .int .i64 a, .int .i64 b, .int .i64 cc, .string s, .string t] 40)) fun e w' => e = .returned (.bool true) ∧ RP w p l d q base F G H blk recs op com 5 w' := by
    exact (rsame_free 5 a j0).mono fun e w' ⟨x, y⟩ => ⟨x, RP.pre o0 y⟩
  unfold belowC at C1 o0 kv ko
  have C1 := hide C1
  have v0 := kv.cell 0
  have v1 := kv.cell 1
  have r1 := ko.cell 1
  have r4 := ko.cell 4
  unfold belowV
  clear j j0
  go_enter Tryz.func19, Tryz.ntmps19
  go_wp2_with fail
  refine (unhide C1).mono ?_
  rintro e w1 ⟨rfl, h1⟩
  go_wp2_with fail
  go_ret
  exact ⟨rfl, h1⟩

set_option maxRecDepth 100000 in
theorem rplay6 (a b cc : Int) (s t : ByteArray) (see : Bool) (hs : s.size ≤ maxLen) (j : JR w p l d q blk base recs op com view uc pc um pm none F G H) (hrc : recs.length ≤ 100) :
    Calls Tryz.prog 19 #[.pointer (some ⟨p, 0, none⟩), .pointer (some ⟨q, 0, none⟩), belowV d l, .agg #[.int .i64 6, .int .i64 a, .int .i64 b, .int .i64 cc, .string s, .string t], .bool see] w fun e w' => e = .returned (.bool true) ∧ RP w p l d q base F G H blk recs op com 6 w' := by
  have o0 : Only (fun _ => False) w ((w.alloc (.cells (belowC d l) 30)).alloc (.cells #[.int .i64 6, .int .i64 a, .int .i64 b, .int .i64 cc, .string s, .string t] 40)) := ((Only.refl _ w).alloc _).alloc _
  have kv : Has ((w.alloc (.cells (belowC d l) 30)).alloc (.cells #[.int .i64 6, .int .i64 a, .int .i64 b, .int .i64 cc, .string s, .string t] 40)) w.heap.size (belowC d l) 30 := (Has.new w _ _).alloc _
  have ko : Has ((w.alloc (.cells (belowC d l) 30)).alloc (.cells #[.int .i64 6, .int .i64 a, .int .i64 b, .int .i64 cc, .string s, .string t] 40)) (w.heap.size + 1) #[.int .i64 6, .int .i64 a, .int .i64 b, .int .i64 cc, .string s, .string t] 40 := Has.new' _ _ _ _ (by simp)
  have j0 := j.keep o0
  have C1 : Calls Tryz.prog 43 #[.pointer (some ⟨p, 0, none⟩), .pointer (some ⟨q, 0, none⟩), .int .i64 a, .bool see] ((w.alloc (.cells (belowC d l) 30)).alloc (.cells #[.int .i64 6, .int .i64 a, .int .i64 b, .int .i64 cc, .string s, .string t] 40)) fun e w' => e = .returned (.bool true) ∧ RP w p l d q base F G H blk recs op com 6 w' := by
    exact (rsame_get 6 a see j0).mono fun e w' ⟨x, y⟩ => ⟨x, RP.pre o0 y⟩
  unfold belowC at C1 o0 kv ko
  have C1 := hide C1
  have v0 := kv.cell 0
  have v1 := kv.cell 1
  have r1 := ko.cell 1
  have r4 := ko.cell 4
  unfold belowV
  clear j j0
  go_enter Tryz.func19, Tryz.ntmps19
  go_wp2_with fail
  refine (unhide C1).mono ?_
  rintro e w1 ⟨rfl, h1⟩
  go_wp2_with fail
  go_ret
  exact ⟨rfl, h1⟩

set_option maxRecDepth 100000 in
theorem rplay7 (a b cc : Int) (s t : ByteArray) (see : Bool) (hs : s.size ≤ maxLen) (j : JR w p l d q blk base recs op com view uc pc um pm none F G H) (hrc : recs.length ≤ 100) :
    Calls Tryz.prog 19 #[.pointer (some ⟨p, 0, none⟩), .pointer (some ⟨q, 0, none⟩), belowV d l, .agg #[.int .i64 7, .int .i64 a, .int .i64 b, .int .i64 cc, .string s, .string t], .bool see] w fun e w' => e = .returned (.bool true) ∧ RP w p l d q base F G H blk recs op com 7 w' := by
  have o0 : Only (fun _ => False) w ((w.alloc (.cells (belowC d l) 30)).alloc (.cells #[.int .i64 7, .int .i64 a, .int .i64 b, .int .i64 cc, .string s, .string t] 40)) := ((Only.refl _ w).alloc _).alloc _
  have kv : Has ((w.alloc (.cells (belowC d l) 30)).alloc (.cells #[.int .i64 7, .int .i64 a, .int .i64 b, .int .i64 cc, .string s, .string t] 40)) w.heap.size (belowC d l) 30 := (Has.new w _ _).alloc _
  have ko : Has ((w.alloc (.cells (belowC d l) 30)).alloc (.cells #[.int .i64 7, .int .i64 a, .int .i64 b, .int .i64 cc, .string s, .string t] 40)) (w.heap.size + 1) #[.int .i64 7, .int .i64 a, .int .i64 b, .int .i64 cc, .string s, .string t] 40 := Has.new' _ _ _ _ (by simp)
  have j0 := j.keep o0
  have C1 : Calls Tryz.prog 44 #[.pointer (some ⟨p, 0, none⟩), .pointer (some ⟨q, 0, none⟩), belowV d l, .int .i64 a, .string s, .bool see] ((w.alloc (.cells (belowC d l) 30)).alloc (.cells #[.int .i64 7, .int .i64 a, .int .i64 b, .int .i64 cc, .string s, .string t] 40)) fun e w' => e = .returned (.bool true) ∧ RP w p l d q base F G H blk recs op com 7 w' := by
    exact (rsame_put 7 a s hs see j0).mono fun e w' ⟨x, y⟩ => ⟨x, RP.pre o0 y⟩
  unfold belowC at C1 o0 kv ko
  have C1 := hide C1
  have v0 := kv.cell 0
  have v1 := kv.cell 1
  have r1 := ko.cell 1
  have r4 := ko.cell 4
  unfold belowV
  clear j j0
  go_enter Tryz.func19, Tryz.ntmps19
  go_wp2_with fail
  refine (unhide C1).mono ?_
  rintro e w1 ⟨rfl, h1⟩
  go_wp2_with fail
  go_ret
  exact ⟨rfl, h1⟩

set_option maxRecDepth 100000 in
theorem rplay8 (a b cc : Int) (s t : ByteArray) (see : Bool) (hs : s.size ≤ maxLen) (j : JR w p l d q blk base recs op com view uc pc um pm none F G H) (hrc : recs.length ≤ 100) :
    Calls Tryz.prog 19 #[.pointer (some ⟨p, 0, none⟩), .pointer (some ⟨q, 0, none⟩), belowV d l, .agg #[.int .i64 8, .int .i64 a, .int .i64 b, .int .i64 cc, .string s, .string t], .bool see] w fun e w' => e = .returned (.bool true) ∧ RP w p l d q base F G H blk recs op com 8 w' := by
  have o0 : Only (fun _ => False) w ((w.alloc (.cells (belowC d l) 30)).alloc (.cells #[.int .i64 8, .int .i64 a, .int .i64 b, .int .i64 cc, .string s, .string t] 40)) := ((Only.refl _ w).alloc _).alloc _
  have kv : Has ((w.alloc (.cells (belowC d l) 30)).alloc (.cells #[.int .i64 8, .int .i64 a, .int .i64 b, .int .i64 cc, .string s, .string t] 40)) w.heap.size (belowC d l) 30 := (Has.new w _ _).alloc _
  have ko : Has ((w.alloc (.cells (belowC d l) 30)).alloc (.cells #[.int .i64 8, .int .i64 a, .int .i64 b, .int .i64 cc, .string s, .string t] 40)) (w.heap.size + 1) #[.int .i64 8, .int .i64 a, .int .i64 b, .int .i64 cc, .string s, .string t] 40 := Has.new' _ _ _ _ (by simp)
  have j0 := j.keep o0
  have C1 : Calls Tryz.prog 45 #[.pointer (some ⟨p, 0, none⟩), .pointer (some ⟨q, 0, none⟩), .int .i64 a] ((w.alloc (.cells (belowC d l) 30)).alloc (.cells #[.int .i64 8, .int .i64 a, .int .i64 b, .int .i64 cc, .string s, .string t] 40)) fun e w' => e = .returned (.bool true) ∧ RP w p l d q base F G H blk recs op com 8 w' := by
    exact (rsame_used 8 a j0).mono fun e w' ⟨x, y⟩ => ⟨x, RP.pre o0 y⟩
  unfold belowC at C1 o0 kv ko
  have C1 := hide C1
  have v0 := kv.cell 0
  have v1 := kv.cell 1
  have r1 := ko.cell 1
  have r4 := ko.cell 4
  unfold belowV
  clear j j0
  go_enter Tryz.func19, Tryz.ntmps19
  go_wp2_with fail
  refine (unhide C1).mono ?_
  rintro e w1 ⟨rfl, h1⟩
  go_wp2_with fail
  go_ret
  exact ⟨rfl, h1⟩

set_option maxRecDepth 100000 in
theorem rplay9 (a b cc : Int) (s t : ByteArray) (see : Bool) (hs : s.size ≤ maxLen) (j : JR w p l d q blk base recs op com view uc pc um pm none F G H) (hrc : recs.length ≤ 100) :
    Calls Tryz.prog 19 #[.pointer (some ⟨p, 0, none⟩), .pointer (some ⟨q, 0, none⟩), belowV d l, .agg #[.int .i64 9, .int .i64 a, .int .i64 b, .int .i64 cc, .string s, .string t], .bool see] w fun e w' => e = .returned (.bool true) ∧ RP w p l d q base F G H blk recs op com 9 w' := by
  have o0 : Only (fun _ => False) w ((w.alloc (.cells (belowC d l) 30)).alloc (.cells #[.int .i64 9, .int .i64 a, .int .i64 b, .int .i64 cc, .string s, .string t] 40)) := ((Only.refl _ w).alloc _).alloc _
  have kv : Has ((w.alloc (.cells (belowC d l) 30)).alloc (.cells #[.int .i64 9, .int .i64 a, .int .i64 b, .int .i64 cc, .string s, .string t] 40)) w.heap.size (belowC d l) 30 := (Has.new w _ _).alloc _
  have ko : Has ((w.alloc (.cells (belowC d l) 30)).alloc (.cells #[.int .i64 9, .int .i64 a, .int .i64 b, .int .i64 cc, .string s, .string t] 40)) (w.heap.size + 1) #[.int .i64 9, .int .i64 a, .int .i64 b, .int .i64 cc, .string s, .string t] 40 := Has.new' _ _ _ _ (by simp)
  have j0 := j.keep o0
  have C1 : Calls Tryz.prog 46 #[.pointer (some ⟨p, 0, none⟩), .pointer (some ⟨q, 0, none⟩)] ((w.alloc (.cells (belowC d l) 30)).alloc (.cells #[.int .i64 9, .int .i64 a, .int .i64 b, .int .i64 cc, .string s, .string t] 40)) fun e w' => e = .returned (.bool true) ∧ RP w p l d q base F G H blk recs op com 9 w' := by
    obtain ⟨ub, pb, hm, _⟩ := j0.md
    refine (sameInTxn_any j0.pg hm).mono ?_
    rintro e w' ⟨rfl, rfl⟩
    exact ⟨rfl, j.same o0⟩
  unfold belowC at C1 o0 kv ko
  have C1 := hide C1
  have v0 := kv.cell 0
  have v1 := kv.cell 1
  have r1 := ko.cell 1
  have r4 := ko.cell 4
  unfold belowV
  clear j j0
  go_enter Tryz.func19, Tryz.ntmps19
  go_wp2_with fail
  refine (unhide C1).mono ?_
  rintro e w1 ⟨rfl, h1⟩
  go_wp2_with fail
  go_ret
  exact ⟨rfl, h1⟩

set_option maxRecDepth 100000 in
theorem rplay10 (a b cc : Int) (s t : ByteArray) (see : Bool) (hs : s.size ≤ maxLen) (j : JR w p l d q blk base recs op com view uc pc um pm none F G H) (hrc : recs.length ≤ 100) :
    Calls Tryz.prog 19 #[.pointer (some ⟨p, 0, none⟩), .pointer (some ⟨q, 0, none⟩), belowV d l, .agg #[.int .i64 10, .int .i64 a, .int .i64 b, .int .i64 cc, .string s, .string t], .bool see] w fun e w' => e = .returned (.bool true) ∧ RP w p l d q base F G H blk recs op com 10 w' := by
  have o0 : Only (fun _ => False) w ((w.alloc (.cells (belowC d l) 30)).alloc (.cells #[.int .i64 10, .int .i64 a, .int .i64 b, .int .i64 cc, .string s, .string t] 40)) := ((Only.refl _ w).alloc _).alloc _
  have kv : Has ((w.alloc (.cells (belowC d l) 30)).alloc (.cells #[.int .i64 10, .int .i64 a, .int .i64 b, .int .i64 cc, .string s, .string t] 40)) w.heap.size (belowC d l) 30 := (Has.new w _ _).alloc _
  have ko : Has ((w.alloc (.cells (belowC d l) 30)).alloc (.cells #[.int .i64 10, .int .i64 a, .int .i64 b, .int .i64 cc, .string s, .string t] 40)) (w.heap.size + 1) #[.int .i64 10, .int .i64 a, .int .i64 b, .int .i64 cc, .string s, .string t] 40 := Has.new' _ _ _ _ (by simp)
  have j0 := j.keep o0
  have C1 : Calls Tryz.prog 47 #[.pointer (some ⟨p, 0, none⟩), .pointer (some ⟨q, 0, none⟩)] ((w.alloc (.cells (belowC d l) 30)).alloc (.cells #[.int .i64 10, .int .i64 a, .int .i64 b, .int .i64 cc, .string s, .string t] 40)) fun e w' => e = .returned (.bool true) ∧ RP w p l d q base F G H blk recs op com 10 w' := by
    obtain ⟨ub, pb, hm, _⟩ := j0.md
    refine (sameFreePages_any j0.pg hm j0.off).mono ?_
    rintro e w' ⟨rfl, h1, ho⟩
    have hcc : cnt (usedL uc) 72 = cnt (usedV view) 72 := by
      unfold cnt
      congr 1
      apply List.filter_congr
      intro n hn
      by_cases h0 : n = 0
      · simp [h0]
      · rw [(j.see n (by omega) (List.mem_range.1 hn)).1]
    have e1 : ((cnt (usedV view) 72 : Int) == (cnt (usedL uc) 72 : Int)) = true := by rw [hcc]; simp
    rw [e1]
    exact ⟨rfl, RP.pre o0 (j0.looked ho h1)⟩
  unfold belowC at C1 o0 kv ko
  have C1 := hide C1
  have v0 := kv.cell 0
  have v1 := kv.cell 1
  have r1 := ko.cell 1
  have r4 := ko.cell 4
  unfold belowV
  clear j j0
  go_enter Tryz.func19, Tryz.ntmps19
  go_wp2_with fail
  refine (unhide C1).mono ?_
  rintro e w1 ⟨rfl, h1⟩
  go_wp2_with fail
  go_ret
  exact ⟨rfl, h1⟩

set_option maxRecDepth 100000 in
theorem rplay11 (a b cc : Int) (s t : ByteArray) (see : Bool) (hs : s.size ≤ maxLen) (j : JR w p l d q blk base recs op com view uc pc um pm none F G H) (hrc : recs.length ≤ 100) :
    Calls Tryz.prog 19 #[.pointer (some ⟨p, 0, none⟩), .pointer (some ⟨q, 0, none⟩), belowV d l, .agg #[.int .i64 11, .int .i64 a, .int .i64 b, .int .i64 cc, .string s, .string t], .bool see] w fun e w' => e = .returned (.bool true) ∧ RP w p l d q base F G H blk recs op com 11 w' := by
  have o0 : Only (fun _ => False) w ((w.alloc (.cells (belowC d l) 30)).alloc (.cells #[.int .i64 11, .int .i64 a, .int .i64 b, .int .i64 cc, .string s, .string t] 40)) := ((Only.refl _ w).alloc _).alloc _
  have kv : Has ((w.alloc (.cells (belowC d l) 30)).alloc (.cells #[.int .i64 11, .int .i64 a, .int .i64 b, .int .i64 cc, .string s, .string t] 40)) w.heap.size (belowC d l) 30 := (Has.new w _ _).alloc _
  have ko : Has ((w.alloc (.cells (belowC d l) 30)).alloc (.cells #[.int .i64 11, .int .i64 a, .int .i64 b, .int .i64 cc, .string s, .string t] 40)) (w.heap.size + 1) #[.int .i64 11, .int .i64 a, .int .i64 b, .int .i64 cc, .string s, .string t] 40 := Has.new' _ _ _ _ (by simp)
  have j0 := j.keep o0
  have C1 : Calls Tryz.prog 48 #[.pointer (some ⟨p, 0, none⟩)] ((w.alloc (.cells (belowC d l) 30)).alloc (.cells #[.int .i64 11, .int .i64 a, .int .i64 b, .int .i64 cc, .string s, .string t] 40)) fun e w' => e = .returned (.bool true) ∧ RP w p l d q base F G H blk recs op com 11 w' := by
    refine (pcheck_any j0.pg j0.map).mono ?_
    rintro e w' ⟨rfl, ho⟩
    exact ⟨rfl, j.same (o0.trans ho (fun _ _ h => h))⟩
  unfold belowC at C1 o0 kv ko
  have C1 := hide C1
  have v0 := kv.cell 0
  have v1 := kv.cell 1
  have r1 := ko.cell 1
  have r4 := ko.cell 4
  unfold belowV
  clear j j0
  go_enter Tryz.func19, Tryz.ntmps19
  go_wp2_with fail
  refine (unhide C1).mono ?_
  rintro e w1 ⟨rfl, h1⟩
  go_wp2_with fail
  go_ret
  exact ⟨rfl, h1⟩

set_option maxRecDepth 100000 in
theorem rplay12 (a b cc : Int) (s t : ByteArray) (see : Bool) (hs : s.size ≤ maxLen) (j : JR w p l d q blk base recs op com view uc pc um pm none F G H) (hrc : recs.length ≤ 100) :
    Calls Tryz.prog 19 #[.pointer (some ⟨p, 0, none⟩), .pointer (some ⟨q, 0, none⟩), belowV d l, .agg #[.int .i64 12, .int .i64 a, .int .i64 b, .int .i64 cc, .string s, .string t], .bool see] w fun e w' => e = .returned (.bool true) ∧ RP w p l d q base F G H blk recs op com 12 w' := by
  have o0 : Only (fun _ => False) w ((w.alloc (.cells (belowC d l) 30)).alloc (.cells #[.int .i64 12, .int .i64 a, .int .i64 b, .int .i64 cc, .string s, .string t] 40)) := ((Only.refl _ w).alloc _).alloc _
  have kv : Has ((w.alloc (.cells (belowC d l) 30)).alloc (.cells #[.int .i64 12, .int .i64 a, .int .i64 b, .int .i64 cc, .string s, .string t] 40)) w.heap.size (belowC d l) 30 := (Has.new w _ _).alloc _
  have ko : Has ((w.alloc (.cells (belowC d l) 30)).alloc (.cells #[.int .i64 12, .int .i64 a, .int .i64 b, .int .i64 cc, .string s, .string t] 40)) (w.heap.size + 1) #[.int .i64 12, .int .i64 a, .int .i64 b, .int .i64 cc, .string s, .string t] 40 := Has.new' _ _ _ _ (by simp)
  have j0 := j.keep o0
  have C1 : Calls Tryz.prog 49 #[.pointer (some ⟨p, 0, none⟩)] ((w.alloc (.cells (belowC d l) 30)).alloc (.cells #[.int .i64 12, .int .i64 a, .int .i64 b, .int .i64 cc, .string s, .string t] 40)) fun e w' => e = .returned (.bool true) ∧ RP w p l d q base F G H blk recs op com 12 w' := by
    refine (small_any j0.pg).mono ?_
    rintro e w' ⟨rfl, ho⟩
    exact ⟨rfl, j.same (o0.trans ho (fun _ _ h => h))⟩
  unfold belowC at C1 o0 kv ko
  have C1 := hide C1
  have v0 := kv.cell 0
  have v1 := kv.cell 1
  have r1 := ko.cell 1
  have r4 := ko.cell 4
  unfold belowV
  clear j j0
  go_enter Tryz.func19, Tryz.ntmps19
  go_wp2_with fail
  refine (unhide C1).mono ?_
  rintro e w1 ⟨rfl, h1⟩
  go_wp2_with fail
  go_ret
  exact ⟨rfl, h1⟩

set_option maxRecDepth 100000 in
theorem rplay_other (kind a b cc : Int) (s t : ByteArray) (see : Bool) (j : JR w p l d q blk base recs op com view uc pc um pm none F G H) (hk : ¬ (1 ≤ kind ∧ kind ≤ 12)) :
    Calls Tryz.prog 19 #[.pointer (some ⟨p, 0, none⟩), .pointer (some ⟨q, 0, none⟩), belowV d l, .agg #[.int .i64 kind, .int .i64 a, .int .i64 b, .int .i64 cc, .string s, .string t], .bool see] w fun e w' => e = .returned (.bool true) ∧ RP w p l d q base F G H blk recs op com kind w' := by
  have o0 : Only (fun _ => False) w ((w.alloc (.cells (belowC d l) 30)).alloc (.cells #[.int .i64 kind, .int .i64 a, .int .i64 b, .int .i64 cc, .string s, .string t] 40)) := ((Only.refl _ w).alloc _).alloc _
  have J := hide (j.same (kind := kind) o0)
  have k1 : (kind == 1) = false := ne_int (by omega)
  have k2 : (kind == 2) = false := ne_int (by omega)
  have k3 : (kind == 3) = false := ne_int (by omega)
  have k4 : (kind == 4) = false := ne_int (by omega)
  have k5 : (kind == 5) = false := ne_int (by omega)
  have k6 : (kind == 6) = false := ne_int (by omega)
  have k7 : (kind == 7) = false := ne_int (by omega)
  have k8 : (kind == 8) = false := ne_int (by omega)
  have k9 : (kind == 9) = false := ne_int (by omega)
  have k10 : (kind == 10) = false := ne_int (by omega)
  have k11 : (kind == 11) = false := ne_int (by omega)
  have k12 : (kind == 12) = false := ne_int (by omega)
  unfold belowC at o0 J
  unfold belowV
  clear hk j
  go_enter Tryz.func19, Tryz.ntmps19
  go_wp2_with fail
  go_ret
  exact ⟨rfl, unhide J⟩

theorem rplay_any (kind a b cc : Int) (s t : ByteArray) (see : Bool) (hs : s.size ≤ maxLen) (j : JR w p l d q blk base recs op com view uc pc um pm none F G H) (hrc : recs.length ≤ 100) :
    Calls Tryz.prog 19 #[.pointer (some ⟨p, 0, none⟩), .pointer (some ⟨q, 0, none⟩), belowV d l, .agg #[.int .i64 kind, .int .i64 a, .int .i64 b, .int .i64 cc, .string s, .string t], .bool see] w fun e w' => e = .returned (.bool true) ∧ RP w p l d q base F G H blk recs op com kind w' := by
  by_cases hk : 1 ≤ kind ∧ kind ≤ 12
  · have hc : kind = 1 ∨ kind = 2 ∨ kind = 3 ∨ kind = 4 ∨ kind = 5 ∨ kind = 6 ∨ kind = 7 ∨ kind = 8 ∨ kind = 9 ∨ kind = 10 ∨ kind = 11 ∨ kind = 12 := by omega
    rcases hc with rfl | rfl | rfl | rfl | rfl | rfl | rfl | rfl | rfl | rfl | rfl | rfl
    · exact rplay1 a b cc s t see hs j hrc
    · exact rplay2 a b cc s t see hs j hrc
    · exact rplay3 a b cc s t see hs j hrc
    · exact rplay4 a b cc s t see hs j hrc
    · exact rplay5 a b cc s t see hs j hrc
    · exact rplay6 a b cc s t see hs j hrc
    · exact rplay7 a b cc s t see hs j hrc
    · exact rplay8 a b cc s t see hs j hrc
    · exact rplay9 a b cc s t see hs j hrc
    · exact rplay10 a b cc s t see hs j hrc
    · exact rplay11 a b cc s t see hs j hrc
    · exact rplay12 a b cc s t see hs j hrc
  · exact rplay_other kind a b cc s t see j hk
end
end Go.Proofs.Qxb6500411aGreat
