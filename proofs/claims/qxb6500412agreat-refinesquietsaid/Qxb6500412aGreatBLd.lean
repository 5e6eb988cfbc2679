/-
  OWN WORK. THE B-TREE: load, store, root, putDir.
-/
import Derived.Test.Qxb6500412aGreatBFA
namespace Go.Proofs.Qxb6500412aGreat
open Go.RowKit Go.PlainAid
set_option linter.unusedSimpArgs false
set_option linter.unusedVariables false

section
variable {S : Nat → Prop} {a b c : World}
theorem Only.up (h : Only (fun _ => False) a b) : Only S a b := h.mono (fun _ _ f => f.elim)
theorem Only.qt (h : Only S a b) (k : Only S b c) : Only S a c := h.trans k (fun _ _ h => h)
theorem Only.q0 (h : Only S a b) (k : Only (fun _ => False) b c) : Only S a c := h.trans k (fun _ _ f => f.elim)
theorem Only.qn {g : Nat} (h : Only S a b) (k : Only (fun k => k = g) b c) (hg : a.heap.size ≤ g) : Only S a c := h.trans k (fun i hi e => by omega)
end
section
variable {q : Gnd} {w w' : World} {op : Bool} {view view' : List ByteArray}
theorem FA.nS (h : FA q w op view) {g : Nat} (hg : w.heap.size ≤ g) : ¬ q.S g := fun c => by
  rcases c with c | c
  · have := h.pg.inG g c; omega
  · have := h.pg.plt; omega
theorem FA.sLt (h : FA q w op view) {k : Nat} (hk : q.S k) : k < w.heap.size := by
  rcases hk with c | c
  · exact h.pg.inG k c
  · rw [c]; exact h.pg.plt
/-- A block of one's own is turned. -/
theorem FA.loc {w0 : World} {op0 : Bool} {v0 : List ByteArray} (A : FA q w op view) (A0 : FA q w0 op0 v0) {g : Nat} (hg : w0.heap.size ≤ g) (ho : Only (fun k => k = g) w w') : FA q w' op view :=
  A.keep ho (fun k hk e => by subst e; have := A0.pg.inF _ hk; omega) (fun k hk e => by subst e; exact A0.nS hg (.inl hk)) (fun e => A0.nS hg (.inr e.symm)) (fun e => by have := A0.has.lt; omega)
set_option maxRecDepth 100000 in
theorem load_any {h : Nat} {l : List (ByteArray × Tr h)} (A : FA q w op view) {pg : Nat} (hn : NV view pg = some (page (ndOf h l))) (ft : Fits h l) :
    Calls Tryz.prog 307 #[.pointer (some ⟨q.f, 0, none⟩), .int .i64 pg] w fun e w' => ∃ x : Node, e = .returned (.tuple #[ndA x, .bool true]) ∧ Rep h x l ∧ FA q w' op view ∧ Only q.S w w' := by
  have D := hide (fun w => decode_any ft w)
  go_enter Tryz.func307, Tryz.ntmps307
  go_upto_region 1 with (first | (refine wpList_alloc_ndd 4 rfl rfl rfl ?_; intro g w1 hG gG oG))
  have A1 := A.quiet oG
  have nS := A.nS gG
  have c1 := A1.ptr
  have C := hide (qget A1 hn)
  have HG := hide hG
  have OG := hide oG
  clear hG oG A1
  go_wp2_with fail
  refine (unhide C).mono ?_
  rintro e w2 ⟨rfl, A2, o2⟩
  have H2 := hide (And.intro ((unhide HG).keep o2 nS) (And.intro A2 o2))
  clear A2 o2
  go_wp2_with fail
  refine (unhide D _).mono ?_
  rintro e w3 ⟨x, rfl, hR, o3⟩
  have hG3 := (unhide H2).1.keep o3 (fun h => h)
  have HG3 := hide hG3
  have O3 := hide o3
  have HR := hide hR
  clear hG3 o3 hR
  go_wp2_with (first | (refine wpList_store_nd rfl _ _ rfl g x rfl rfl (unhide HG3) ?_; intro w4 n4 o4))
  refine bodyPost_ret (res2_nd Tryz.results307 _ rfl n4) rfl ?_
  have A3 := (unhide H2).2.1.quiet (unhide O3)
  refine ⟨x, rfl, unhide HR, A3.loc A gG o4, ?_⟩
  exact (((unhide OG).up.qt (unhide H2).2.2).q0 (unhide O3)).qn o4 gG
set_option maxRecDepth 100000 in
theorem store_any {h : Nat} {x : Node} {l : List (ByteArray × Tr h)} (A : FA q w true view) {pg : Nat} {b0 : ByteArray} (hn : NV view pg = some b0) (r : Rep h x l) (ft : Fits h l) :
    Calls Tryz.prog 152 #[.pointer (some ⟨q.f, 0, none⟩), .int .i64 pg, ndA x] w fun e w' => e = .returned (.int .i64 0) ∧ (∃ view', FA q w' true view' ∧ NV view' = setN (NV view) pg (some (page (ndOf h l)))) ∧ Only q.S w w' := by
  have D := hide (fun w => encode_any r ft w)
  go_enter Tryz.func152, Tryz.ntmps152
  go_upto_region 1 with (first | (refine wpList_box_ndd 5 rfl rfl _ rfl x rfl ?_; intro g w1 hG gG oG))
  have HG := hide hG
  have OG := hide oG
  clear hG oG
  go_wp2_with (first | (refine wpList_load_nd rfl _ rfl g rfl (unhide HG) ?_))
  refine (unhide D _).mono ?_
  rintro e w3 ⟨rfl, o3⟩
  have A3 := (A.quiet (unhide OG)).quiet o3
  have c1 := A3.ptr
  have C := hide (qput A3 hn (page_size (ndOf h l)))
  have O3 := hide ((unhide OG).q0 o3)
  clear o3 A3
  go_wp2_with fail
  refine (unhide C).mono ?_
  rintro e w4 ⟨rfl, hV, o4⟩
  have FF := hide (And.intro hV o4)
  clear hV o4
  go_wp2_with fail
  go_ret
  exact ⟨rfl, (unhide FF).1, (unhide O3).up.qt (unhide FF).2⟩
theorem putDir_any (A : FA q w true view) {b0 b : ByteArray} (hn : NV view 1 = some b0) (hb : b.size = 128) :
    Calls Tryz.prog 154 #[.pointer (some ⟨q.f, 0, none⟩), .string b] w fun e w' => e = .returned (.int .i64 0) ∧ (∃ view', FA q w' true view' ∧ NV view' = setN (NV view) 1 (some b)) ∧ Only q.S w w' := by
  have c1 := A.ptr
  have C := hide (qput A hn hb)
  go_enter Tryz.func154, Tryz.ntmps154
  go_wp2_with fail
  refine (unhide C).mono ?_
  rintro e w4 ⟨rfl, hV, o4⟩
  have FF := hide (And.intro hV o4)
  clear hV o4
  go_wp2_with fail
  go_ret
  exact ⟨rfl, (unhide FF).1, (unhide FF).2⟩
/-- The root page that a directory names. -/
def rootOf (d : ByteArray) (h : Int) : Nat := if 0 ≤ h ∧ h < 8 then byteAt d h.toNat else 0
theorem root_any (A : FA q w op view) {d : ByteArray} (hn : NV view 1 = some d) (h : Int) :
    Calls Tryz.prog 150 #[.pointer (some ⟨q.f, 0, none⟩), .int .i64 h] w fun e w' => e = .returned (.tuple #[.string d, .int .i64 (rootOf d h)]) ∧ FA q w' op view ∧ Only q.S w w' := by
  have c1 := A.ptr
  have hd : d.size = 128 := by
    obtain ⟨h1, h2, h3, h4⟩ := NV_some hn
    rw [← h4]; exact A.pg.sz 1 (by omega)
  have C := hide (qget A hn)
  by_cases hh : 0 ≤ h ∧ h < 8
  · have a1 : decide (h < 0) = false := decide_eq_false (by omega)
    have a2 : decide (h ≥ 8) = false := decide_eq_false (by omega)
    have a2' : decide (8 ≤ h) = false := decide_eq_false (by omega)
    have q0 : 0 ≤ h := hh.1
    have q1 : h < 128 := by omega
    have qb : h.toNat < d.size := by omega
    have hr : rootOf d h = byteAt d h.toNat := if_pos hh
    rw [hr]
    have hx := hide (wrap_byte d h.toNat qb)
    clear hr hh
    go_enter Tryz.func150, Tryz.ntmps150
    go_wp2_with fail
    refine (unhide C).mono ?_
    rintro e w4 ⟨rfl, hV, o4⟩
    have FF := hide (And.intro hV o4)
    clear hV o4
    go_wp2_with fail
    go_region
    all_goals
      go_wp2_with fail
      go_ret2
      refine ⟨?_, (unhide FF).1.quiet (Only.refl _ _).drew, (unhide FF).2.drew⟩
      rw [← unhide hx]
      rfl
  · have hr : rootOf d h = 0 := if_neg hh
    rw [hr]
    by_cases h0 : h < 0
    · have a1 : decide (h < 0) = true := decide_eq_true h0
      clear hr hh
      go_enter Tryz.func150, Tryz.ntmps150
      go_wp2_with fail
      refine (unhide C).mono ?_
      rintro e w4 ⟨rfl, hV, o4⟩
      have FF := hide (And.intro hV o4)
      clear hV o4
      go_wp2_with fail
      go_ret2
      exact ⟨rfl, (unhide FF).1, (unhide FF).2⟩
    · have a1 : decide (h < 0) = false := decide_eq_false h0
      have a2 : decide (h ≥ 8) = true := decide_eq_true (by omega)
      have a2' : decide (8 ≤ h) = true := decide_eq_true (by omega)
      clear hr hh
      go_enter Tryz.func150, Tryz.ntmps150
      go_wp2_with fail
      refine (unhide C).mono ?_
      rintro e w4 ⟨rfl, hV, o4⟩
      have FF := hide (And.intro hV o4)
      clear hV o4
      go_wp2_with fail
      go_ret2
      exact ⟨rfl, (unhide FF).1, (unhide FF).2⟩
end
end Go.Proofs.Qxb6500412aGreat
