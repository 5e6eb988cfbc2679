/-
  OWN WORK. THE TABLE MODEL's STORE: its memory; the bracket's plain ends; the changes.
-/
import Derived.Test.Qxb6500413aGreatMM13
import Derived.Test.Qxb6500413aGreatMM7
import Derived.Laws.Append
namespace Go.Proofs.Qxb6500413aGreat
open Go.RowKit Go.PlainAid
set_option linter.unusedSimpArgs false
set_option linter.unusedVariables false

/-- A database in a value, its blocks within O. -/
def MV (w : World) (v : Value) (D : Db) (O : Nat → Prop) : Prop := ∃ l, ML w v l ∧ l.map (·.t) = D ∧ DOk D ∧ ∀ k, MLm v l k ∨ MLi l k → O k
section
variable {w w' : World} {v : Value} {D : Db} {O O' B : Nat → Prop}
theorem MV.keep (h : MV w v D O) (ho : Only B w w') (hB : ∀ k, O k → ¬ B k) : MV w' v D O := by
  obtain ⟨l, h1, h2, h3, h4⟩ := h
  exact ⟨l, h1.keep ho (fun k hk => hB k (h4 k (.inl hk))) (fun k hk => hB k (h4 k (.inr hk))), h2, h3, h4⟩
theorem MV.mono (h : MV w v D O) (hO : ∀ k, O k → O' k) : MV w v D O' := by
  obtain ⟨l, h1, h2, h3, h4⟩ := h
  exact ⟨l, h1, h2, h3, fun k hk => hO k (h4 k hk)⟩
/-- The blocks it stands in, and no other. -/
theorem MV.own (h : MV w v D O) : ∃ P, MV w v D P ∧ (∀ k, P k → O k) ∧ ∀ k, P k → k < w.heap.size := by
  obtain ⟨l, h1, h2, h3, h4⟩ := h
  exact ⟨fun k => MLm v l k ∨ MLi l k, ⟨l, h1, h2, h3, fun k hk => hk⟩, h4, fun k hk => h1.lt k hk⟩
theorem DOk.nil : DOk [] := ⟨fun _ h => (by simp at h), List.Pairwise.nil, Nat.zero_le _⟩
theorem MV.nil (w : World) : MV w (.slice none 0 0) [] O := ⟨[], ML.nil w, rfl, DOk.nil, fun k hk => by
  rcases hk with (hk | ⟨e, he, _⟩) | ⟨e, he, _⟩
  · simp [Value.ownBlock] at hk
  · simp at he
  · simp at he⟩
theorem MV.ok (h : MV w v D O) : DOk D := by obtain ⟨l, _, _, h3, _⟩ := h; exact h3
theorem MV.neT (h : MV w v D O) {g : Nat} {c : Array Value} (H : Has w g c 93) : ∃ P, MV w v D P ∧ (∀ k, P k → O k) ∧ ∀ k, P k → k ≠ g := by
  obtain ⟨l, h1, h2, h3, h4⟩ := h
  exact ⟨fun k => MLm v l k ∨ MLi l k, ⟨l, h1, h2, h3, fun k hk => hk⟩, h4, h1.neT H (by decide) (by decide) (by decide) (by decide)⟩
theorem MV.shape (h : MV w v D O) : ∃ a n cap, v = .slice a n cap := by
  obtain ⟨l, h1, _⟩ := h
  obtain ⟨a, cap, e⟩ := h1.shape
  exact ⟨a, _, cap, e⟩
theorem MV.db {dk o : Nat} (h : MV w v D O) (c0 : w.cell? ⟨dk, o, none⟩ = some v) : ∃ l, MDb w dk o v l D := by
  obtain ⟨l, h1, h2, h3, h4⟩ := h
  exact ⟨l, c0, h1, h2, h3⟩
end
/-- What a clone leaves. -/
def VcP (w : World) (D : Db) (x : Ending) (w' : World) : Prop := ∃ (g n : Nat) (P : Nat → Prop), x = .returned (.agg #[.slice (some ⟨g, 0, none⟩) n n]) ∧ MV w' (.slice (some ⟨g, 0, none⟩) n n) D P ∧ (∀ k, P k → w.heap.size ≤ k ∧ k < w'.heap.size) ∧ Only (fun _ => False) w w'
theorem vclone_any {w : World} {v : Value} {D : Db} {O : Nat → Prop} {dk o : Nat} (c0 : w.cell? ⟨dk, o, none⟩ = some v) (h : MV w v D O) : Calls Tryz.prog 53 #[.pointer (some ⟨dk, o, none⟩)] w (VcP w D) := by
  obtain ⟨l, h1, h2, h3, h4⟩ := h
  refine (mdbClone_any c0 h1).mono ?_
  rintro e w' ⟨g, n, l', rfl, M, ht, hn, o1⟩
  exact ⟨g, n, fun k => MLm (.slice (some ⟨g, 0, none⟩) n n) l' k ∨ MLi l' k, rfl, ⟨l', M, by rw [ht, h2], h3, fun k hk => hk⟩, fun k hk => ⟨hn k hk, M.lt k hk⟩, o1⟩
/-- The record of commits: none, or one. -/
def HisY (w : World) (hv : Value) (O : Nat → Prop) : Option Db → Prop
  | none => hv = .slice none 0 0
  | some X => ∃ v, w.ownsRow 0 90 1 hv 1 [v] ∧ MV w v X O ∧ ∀ k, hv.ownBlock = some k → O k
def stoC (a b c hv : Value) (op : Bool) : Array Value := #[a, b, c, hv, .bool op]
/-- The model: what it shows, what lasts, what lasted at the mark, the record; H: all its blocks. -/
structure YAt (w : World) (m : Nat) (S T U : Db) (hist : Option Db) (op : Bool) (H : Nat → Prop) : Prop where
  ex : ∃ a b c hv O P, Has w m (stoC a b c hv op) 93 ∧ MV w a S P ∧ MV w b T O ∧ MV w c U O ∧ HisY w hv O hist ∧ (∀ k, P k → ¬ O k ∧ H k ∧ k ≠ m) ∧ (∀ k, O k → H k ∧ k ≠ m)
  hm : H m
  inn : ∀ k, H k → k < w.heap.size
section
variable {w w' : World} {m : Nat} {S T U : Db} {hist : Option Db} {op : Bool} {H : Nat → Prop}
theorem HisY.keep {B O : Nat → Prop} {hv : Value} (h : HisY w hv O hist) (ho : Only B w w') (hB : ∀ k, O k → ¬ B k) : HisY w' hv O hist := by
  cases hist with
  | none => exact h
  | some X =>
    obtain ⟨v, h1, h2, h3⟩ := h
    exact ⟨v, ownsRow_keep h1 ho (fun k hk => hB k (h3 k hk)), h2.keep ho hB, h3⟩
theorem HisY.mono {O O' : Nat → Prop} {hv : Value} (h : HisY w hv O hist) (hO : ∀ k, O k → O' k) : HisY w hv O' hist := by
  cases hist with
  | none => exact h
  | some X =>
    obtain ⟨v, h1, h2, h3⟩ := h
    exact ⟨v, h1, h2.mono hO, fun k hk => hO k (h3 k hk)⟩
theorem HisY.shape {O : Nat → Prop} {hv : Value} (h : HisY w hv O hist) : ∃ x n cap, hv = .slice x n cap ∧ n = hist.toList.length := by
  cases hist with
  | none => exact ⟨none, 0, 0, h, rfl⟩
  | some X =>
    obtain ⟨v, h1, _⟩ := h
    obtain ⟨x, cap, e⟩ := ownsRow_shape h1
    exact ⟨x, 1, cap, e, rfl⟩
theorem YAt.keep {B : Nat → Prop} (h : YAt w m S T U hist op H) (ho : Only B w w') (hB : ∀ k, H k → ¬ B k) : YAt w' m S T U hist op H := by
  obtain ⟨a, b, c, hv, O, P, h1, h2, h3, h4, h5, h6, h7⟩ := h.ex
  exact ⟨⟨a, b, c, hv, O, P, h1.keep ho (hB m h.hm), h2.keep ho (fun k hk => hB k (h6 k hk).2.1), h3.keep ho (fun k hk => hB k (h7 k hk).1), h4.keep ho (fun k hk => hB k (h7 k hk).1), h5.keep ho (fun k hk => hB k (h7 k hk).1), h6, h7⟩, h.hm, fun k hk => Nat.lt_of_lt_of_le (h.inn k hk) ho.size⟩
theorem YAt.quiet (h : YAt w m S T U hist op H) (ho : Only (fun _ => False) w w') : YAt w' m S T U hist op H := h.keep ho (fun _ _ h => h)
theorem YAt.mono {H' : Nat → Prop} (h : YAt w m S T U hist op H) (hH : ∀ k, H k → H' k) (hi : ∀ k, H' k → k < w.heap.size) : YAt w m S T U hist op H' := by
  obtain ⟨a, b, c, hv, O, P, h1, h2, h3, h4, h5, h6, h7⟩ := h.ex
  exact ⟨⟨a, b, c, hv, O, P, h1, h2, h3, h4, h5, fun k hk => ⟨(h6 k hk).1, hH k (h6 k hk).2.1, (h6 k hk).2.2⟩, fun k hk => ⟨hH k (h7 k hk).1, (h7 k hk).2⟩⟩, hH m h.hm, hi⟩
theorem YAt.nem (h : YAt w m S T U hist op H) : m < w.heap.size := h.inn m h.hm
theorem YAt.ok (h : YAt w m S T U hist op H) : DOk S := by
  obtain ⟨a, b, c, hv, O, P, h1, h2, _⟩ := h.ex
  exact h2.ok
theorem YAt.cop (h : YAt w m S T U hist op H) : w.cell? ⟨m, 4, none⟩ = some (.bool op) ∧ w.frozen? ⟨m, 4, none⟩ = false := by
  obtain ⟨a, b, c, hv, O, P, h1, h2, _⟩ := h.ex
  exact ⟨by rw [h1.cell]; rfl, h1.free 4⟩
/-- What it shows. -/
theorem YAt.see (h : YAt w m S T U hist op H) : ∃ v l, MDb w m 0 v l S := by
  obtain ⟨a, b, c, hv, O, P, h1, h2, _⟩ := h.ex
  obtain ⟨l, h⟩ := h2.db (dk := m) (o := 0) (by rw [h1.cell]; rfl)
  exact ⟨a, l, h⟩
/-- What it shows may turn. -/
theorem YAt.turn (h : YAt w m S T U hist op H) : ∃ cs v l, MDc w m 0 cs v l S ∧ ∀ {D' : Db} {z : Int} {x : Ending} {w' : World}, MdP w m 0 cs v l D' z x w' → x = .returned (.int .i64 z) ∧ YAt w' m D' T U hist op (Ext H w w') ∧ Only H w w' := by
  obtain ⟨a, b, c, hv, O, P, h1, ⟨l, g1, g2, g3, g4⟩, h3, h4, h5, h6, h7⟩ := h.ex
  refine ⟨_, a, l, ⟨h1, rfl, g1, g2, g3⟩, ?_⟩
  rintro D' z x w' ⟨v', l', rfl, M, hm, hi, oo⟩
  have nO : ∀ k, O k → ¬ (k = m ∨ MLm a l k) := fun k hk e => by
    rcases e with e | e
    · exact (h7 k hk).2 e
    · exact (h6 k (g4 k (.inl e))).1 hk
  have src : ∀ k, MLm v' l' k ∨ MLi l' k → P k ∨ w.heap.size ≤ k := fun k hk => by
    rcases hk with hk | hk
    · exact (hm k hk).imp (fun c => g4 k (.inl c)) id
    · exact (hi k hk).imp (fun c => g4 k (.inr c)) id
  refine ⟨rfl, ⟨⟨v', b, c, hv, O, fun k => MLm v' l' k ∨ MLi l' k, ?_, ⟨l', M.ml, M.tt, M.ok, fun k hk => hk⟩, h3.keep oo nO, h4.keep oo nO, h5.keep oo nO, fun k hk => ⟨fun c => ?_, ?_, M.dkne k hk⟩, fun k hk => ⟨.inl (h7 k hk).1, (h7 k hk).2⟩⟩, .inl h.hm, Ext.in h.inn oo.size⟩, oo.mono (fun k _ e => ?_)⟩
  · exact M.has
  · rcases src k hk with e | e
    · exact (h6 k e).1 c
    · have := h.inn k (h7 k c).1
      omega
  · rcases src k hk with e | e
    · exact .inl (h6 k e).2.1
    · exact .inr ⟨e, M.ml.lt k hk⟩
  · rcases e with rfl | e
    · exact h.hm
    · exact (h6 k (g4 k (.inl e))).2.1
theorem yintxn_any (h : YAt w m S T U hist op H) : Calls Tryz.prog 26 #[.pointer (some ⟨m, 0, none⟩)] w fun e w' => e = .returned (.bool op) ∧ w = w' := by
  obtain ⟨c4, _⟩ := h.cop
  clear h
  go_enter Tryz.func26, Tryz.ntmps26
  go_wp2_with fail
  go_ret
  exact ⟨rfl, rfl⟩
theorem ybegin_open (h : YAt w m S T U hist true H) : Calls Tryz.prog 62 #[.pointer (some ⟨m, 0, none⟩)] w fun e w' => e = .returned (.int .i64 3) ∧ w = w' := by
  obtain ⟨c4, _⟩ := h.cop
  clear h
  go_enter Tryz.func62, Tryz.ntmps62
  go_wp2_with fail
  go_ret
  exact ⟨rfl, rfl⟩
theorem ybegin_shut (h : YAt w m S T U hist false H) : Calls Tryz.prog 62 #[.pointer (some ⟨m, 0, none⟩)] w fun e w' => e = .returned (.int .i64 0) ∧ YAt w' m S T U hist true H ∧ Only (fun k => k = m) w w' := by
  obtain ⟨c4, f4⟩ := h.cop
  obtain ⟨a, b, c, hv, O, P, h1, h2, h3, h4, h5, h6, h7⟩ := h.ex
  have ho : Only (fun k => k = m) w (w.setCell ⟨m, 4, none⟩ (.bool true)) := only1 _ _
  have HP := hide (show YAt (w.setCell ⟨m, 4, none⟩ (.bool true)) m S T U hist true H from ⟨⟨a, b, c, hv, O, P, h1.setCell 4 (.bool true), h2.keep ho (fun k hk e => (h6 k hk).2.2 e), h3.keep ho (fun k hk e => (h7 k hk).2 e), h4.keep ho (fun k hk e => (h7 k hk).2 e), h5.keep ho (fun k hk e => (h7 k hk).2 e), h6, h7⟩, h.hm, fun k hk => Nat.lt_of_lt_of_le (h.inn k hk) ho.size⟩)
  clear h h1 h2 h3 h4 h5 h6 h7
  go_enter Tryz.func62, Tryz.ntmps62
  go_wp2_with fail
  go_ret
  exact ⟨rfl, unhide HP, ho⟩
theorem yabort_shut (h : YAt w m S T U hist false H) : Calls Tryz.prog 66 #[.pointer (some ⟨m, 0, none⟩)] w fun e w' => e = .returned (.int .i64 2) ∧ w = w' := by
  obtain ⟨c4, _⟩ := h.cop
  clear h
  go_enter Tryz.func66, Tryz.ntmps66
  go_wp2_with fail
  go_ret
  exact ⟨rfl, rfl⟩
theorem ycommit_shut (h : YAt w m S T U hist false H) : Calls Tryz.prog 64 #[.pointer (some ⟨m, 0, none⟩)] w fun e w' => e = .returned (.int .i64 2) ∧ w = w' := by
  obtain ⟨c4, _⟩ := h.cop
  clear h
  go_enter Tryz.func64, Tryz.ntmps64
  go_wp2_with fail
  go_ret
  exact ⟨rfl, rfl⟩
end
/-- What a change of the model leaves. -/
def YcP (w : World) (m : Nat) (T U : Db) (hist : Option Db) (H : Nat → Prop) (R : Db × Int) (x : Ending) (w' : World) : Prop := x = .returned (.int .i64 R.2) ∧ YAt w' m R.1 T U hist true (Ext H w w') ∧ Only H w w'
section
variable {w w' : World} {m : Nat} {S T U : Db} {hist : Option Db} {op : Bool} {H : Nat → Prop}
theorem ydrop_shut (h : YAt w m S T U hist false H) (nm : ByteArray) : Calls Tryz.prog 72 #[.pointer (some ⟨m, 0, none⟩), .string nm] w fun e w' => e = .returned (.int .i64 2) ∧ Only (fun _ => False) w w' := by
  obtain ⟨c4, _⟩ := h.cop
  clear h
  go_enter Tryz.func72, Tryz.ntmps72
  go_wp2_with fail
  go_ret
  exact ⟨rfl, Only.refl _ _⟩
set_option maxRecDepth 100000 in
theorem ydrop_open (h : YAt w m S T U hist true H) (nm : ByteArray) : Calls Tryz.prog 72 #[.pointer (some ⟨m, 0, none⟩), .string nm] w (YcP w m T U hist H (drpD S nm)) := by
  obtain ⟨c4, _⟩ := h.cop
  obtain ⟨cs, v, l, M, hK⟩ := h.turn
  have CC := hide (mdbDrop_any M nm)
  have HK := hide (fun (x : Ending) (w' : World) (hp : MdP w m 0 cs v l (drpD S nm).1 (drpD S nm).2 x w') => show YcP w m T U hist H (drpD S nm) x w' from hK hp)
  clear h M hK
  go_enter Tryz.func72, Tryz.ntmps72
  go_wp2_with fail
  refine (unhide CC).mono ?_
  rintro x w2 hp
  have HP := hide (unhide HK _ _ hp)
  obtain ⟨v', l', rfl, _⟩ := hp
  clear CC HK c4
  go_wp2_with fail
  go_ret
  exact unhide HP
theorem yindex_shut (h : YAt w m S T U hist false H) (nm : ByteArray) (col : Int) : Calls Tryz.prog 74 #[.pointer (some ⟨m, 0, none⟩), .string nm, .int .i64 col] w fun e w' => e = .returned (.int .i64 2) ∧ Only (fun _ => False) w w' := by
  obtain ⟨c4, _⟩ := h.cop
  clear h
  go_enter Tryz.func74, Tryz.ntmps74
  go_wp2_with fail
  go_ret
  exact ⟨rfl, Only.refl _ _⟩
set_option maxRecDepth 100000 in
theorem yindex_open (h : YAt w m S T U hist true H) (nm : ByteArray) (col : Int) : Calls Tryz.prog 74 #[.pointer (some ⟨m, 0, none⟩), .string nm, .int .i64 col] w (YcP w m T U hist H (cixD S nm col)) := by
  obtain ⟨c4, _⟩ := h.cop
  obtain ⟨cs, v, l, M, hK⟩ := h.turn
  have CC := hide (mdbIndex_any M nm col)
  have HK := hide (fun (x : Ending) (w' : World) (hp : MdP w m 0 cs v l (cixD S nm col).1 (cixD S nm col).2 x w') => show YcP w m T U hist H (cixD S nm col) x w' from hK hp)
  clear h M hK
  go_enter Tryz.func74, Tryz.ntmps74
  go_wp2_with fail
  refine (unhide CC).mono ?_
  rintro x w2 hp
  have HP := hide (unhide HK _ _ hp)
  obtain ⟨v', l', rfl, _⟩ := hp
  clear CC HK c4
  go_wp2_with fail
  go_ret
  exact unhide HP
theorem ycreate_shut (h : YAt w m S T U hist false H) (nm : ByteArray) (cv : Value) (pk : Int) : Calls Tryz.prog 70 #[.pointer (some ⟨m, 0, none⟩), .string nm, cv, .int .i64 pk] w fun e w' => e = .returned (.int .i64 2) ∧ Only (fun _ => False) w w' := by
  obtain ⟨c4, _⟩ := h.cop
  clear h
  go_enter Tryz.func70, Tryz.ntmps70
  go_wp2_with fail
  go_ret
  exact ⟨rfl, Only.refl _ _⟩
set_option maxRecDepth 100000 in
theorem ycreate_open (h : YAt w m S T U hist true H) (nm : ByteArray) {cv : Value} {cols : List Cl} (C : OwnC w cv cols) (pk : Int) : Calls Tryz.prog 70 #[.pointer (some ⟨m, 0, none⟩), .string nm, cv, .int .i64 pk] w (YcP w m T U hist H (crtD S nm cols pk)) := by
  obtain ⟨c4, _⟩ := h.cop
  obtain ⟨cs, v, l, M, hK⟩ := h.turn
  have CC := hide (mdbCreate_any M nm C pk)
  have HK := hide (fun (x : Ending) (w' : World) (hp : MdP w m 0 cs v l (crtD S nm cols pk).1 (crtD S nm cols pk).2 x w') => show YcP w m T U hist H (crtD S nm cols pk) x w' from hK hp)
  clear h M hK
  go_enter Tryz.func70, Tryz.ntmps70
  go_wp2_with fail
  refine (unhide CC).mono ?_
  rintro x w2 hp
  have HP := hide (unhide HK _ _ hp)
  obtain ⟨v', l', rfl, _⟩ := hp
  clear CC HK c4
  go_wp2_with fail
  go_ret
  exact unhide HP
theorem yinsert_shut (h : YAt w m S T U hist false H) (nm : ByteArray) (rv : Value) : Calls Tryz.prog 78 #[.pointer (some ⟨m, 0, none⟩), .string nm, rv] w fun e w' => e = .returned (.int .i64 2) ∧ Only (fun _ => False) w w' := by
  obtain ⟨c4, _⟩ := h.cop
  clear h
  go_enter Tryz.func78, Tryz.ntmps78
  go_wp2_with fail
  go_ret
  exact ⟨rfl, Only.refl _ _⟩
set_option maxRecDepth 100000 in
theorem yinsert_open (h : YAt w m S T U hist true H) (nm : ByteArray) {rv : Value} {row : List Vl} (O : OwnV w rv row) (hw : ∀ v ∈ row, v.wf) (h4 : row.length ≤ 100) : Calls Tryz.prog 78 #[.pointer (some ⟨m, 0, none⟩), .string nm, rv] w (YcP w m T U hist H (insD S nm row)) := by
  obtain ⟨c4, _⟩ := h.cop
  obtain ⟨cs, v, l, M, hK⟩ := h.turn
  have CC := hide (mdbInsert_any M nm O hw h4)
  have HK := hide (fun (x : Ending) (w' : World) (hp : MdP w m 0 cs v l (insD S nm row).1 (insD S nm row).2 x w') => show YcP w m T U hist H (insD S nm row) x w' from hK hp)
  clear h M hK
  go_enter Tryz.func78, Tryz.ntmps78
  go_wp2_with fail
  refine (unhide CC).mono ?_
  rintro x w2 hp
  have HP := hide (unhide HK _ _ hp)
  obtain ⟨v', l', rfl, _⟩ := hp
  clear CC HK c4
  go_wp2_with fail
  go_ret
  exact unhide HP
theorem yupdate_shut (h : YAt w m S T U hist false H) (nm : ByteArray) (rv : Value) : Calls Tryz.prog 80 #[.pointer (some ⟨m, 0, none⟩), .string nm, rv] w fun e w' => e = .returned (.int .i64 2) ∧ Only (fun _ => False) w w' := by
  obtain ⟨c4, _⟩ := h.cop
  clear h
  go_enter Tryz.func80, Tryz.ntmps80
  go_wp2_with fail
  go_ret
  exact ⟨rfl, Only.refl _ _⟩
set_option maxRecDepth 100000 in
theorem yupdate_open (h : YAt w m S T U hist true H) (nm : ByteArray) {rv : Value} {row : List Vl} (O : OwnV w rv row) (hw : ∀ v ∈ row, v.wf) (h4 : row.length ≤ 100) : Calls Tryz.prog 80 #[.pointer (some ⟨m, 0, none⟩), .string nm, rv] w (YcP w m T U hist H (updD S nm row)) := by
  obtain ⟨c4, _⟩ := h.cop
  obtain ⟨cs, v, l, M, hK⟩ := h.turn
  have CC := hide (mdbUpdate_any M nm O hw h4)
  have HK := hide (fun (x : Ending) (w' : World) (hp : MdP w m 0 cs v l (updD S nm row).1 (updD S nm row).2 x w') => show YcP w m T U hist H (updD S nm row) x w' from hK hp)
  clear h M hK
  go_enter Tryz.func80, Tryz.ntmps80
  go_wp2_with fail
  refine (unhide CC).mono ?_
  rintro x w2 hp
  have HP := hide (unhide HK _ _ hp)
  obtain ⟨v', l', rfl, _⟩ := hp
  clear CC HK c4
  go_wp2_with fail
  go_ret
  exact unhide HP
theorem ydelete_shut (h : YAt w m S T U hist false H) (nm : ByteArray) (key : Vl) : Calls Tryz.prog 82 #[.pointer (some ⟨m, 0, none⟩), .string nm, vlA key] w fun e w' => e = .returned (.int .i64 2) ∧ Only (fun _ => False) w w' := by
  obtain ⟨c4, _⟩ := h.cop
  have o1 : Only (fun _ => False) w (w.alloc (.cells #[.bool key.str, .int .i64 key.i, .string key.s] 72)) := (Only.refl _ _).alloc _
  have HO := hide o1
  have c4 := cell_keep c4 o1 (fun e => e)
  clear h o1
  unfold vlA
  go_enter Tryz.func82, Tryz.ntmps82
  go_wp2_with fail
  go_ret
  exact ⟨rfl, unhide HO⟩
set_option maxRecDepth 100000 in
theorem ydelete_open (h : YAt w m S T U hist true H) (nm : ByteArray) (key : Vl) (hw : key.wf) : Calls Tryz.prog 82 #[.pointer (some ⟨m, 0, none⟩), .string nm, vlA key] w (YcP w m T U hist H (delD S nm key)) := by
  have o1 : Only (fun _ => False) w (w.alloc (.cells #[.bool key.str, .int .i64 key.i, .string key.s] 72)) := (Only.refl _ _).alloc _
  have Bx : Has (w.alloc (.cells #[.bool key.str, .int .i64 key.i, .string key.s] 72)) w.heap.size #[.bool key.str, .int .i64 key.i, .string key.s] 72 := Has.new _ _ _
  have h1 := h.quiet o1
  obtain ⟨c4, _⟩ := h1.cop
  have HH := hide (And.intro h (And.intro o1 (And.intro h1 Bx)))
  clear h h1 o1 Bx
  unfold vlA
  go_enter Tryz.func82, Tryz.ntmps82
  go_upto_region 1 with fail
  generalize w.alloc (.cells #[.bool key.str, .int .i64 key.i, .string key.s] 72) = w1 at *
  have hsz := (unhide HH).2.2.2.lt
  generalize hkb : w.heap.size = kb at *
  have b0 := (unhide HH).2.2.2.cell 0
  have b1 := (unhide HH).2.2.2.cell 1
  have b2 := (unhide HH).2.2.2.cell 2
  simp at b0 b1 b2
  have hd : Only (fun _ => False) w w1.drew := (unhide HH).2.1.drew
  obtain ⟨cs, v, l, M, hK⟩ := ((unhide HH).2.2.1.quiet (Only.refl (fun _ => False) w1).drew).turn
  have CC := mdbDelete_any M nm key hw
  unfold vlA at CC
  have CC := hide CC
  have HK := hide (fun (x : Ending) (w' : World) (hp : MdP w1.drew m 0 cs v l (delD S nm key).1 (delD S nm key).2 x w') => show YcP w m T U hist H (delD S nm key) x w' from by
    obtain ⟨e1, e2, e3⟩ := hK hp
    refine ⟨e1, e2.mono (fun k hk => ?_) (Ext.in (unhide HH).1.inn (Nat.le_trans hd.size e3.size)), (hd.mono (fun _ _ e => e.elim)).trans e3 (fun _ _ e => e)⟩
    rcases hk with hk | hk
    · exact .inl hk
    · exact .inr ⟨Nat.le_trans hd.size hk.1, hk.2⟩)
  clear M hK hkb hd
  go_upto_region 3 with fail
  go_region_with (go_at_call 156; refine (unhide CC).mono ?_; rintro x w2 hp; have HP := hide (unhide HK _ _ hp); obtain ⟨v', l', rfl, _⟩ := hp)
  all_goals
    go_wp2_with fail
    go_ret
    exact unhide HP
end
end Go.Proofs.Qxb6500413aGreat
