/-
  OWN WORK. QUERY's MODEL: the engine's observers, Clone.
-/
import Derived.Test.Qxb6500412aGreatQE16
import Derived.Test.Qxb6500412aGreatXM7
import Derived.Test.Qxb6500412aGreatS47
namespace Go.Proofs.Qxb6500412aGreat
open Go.RowKit Go.PlainAid
set_option linter.unusedSimpArgs false
set_option linter.unusedVariables false

section
variable {w w' : World} {k q : Nat} {M : Mu} {H : Nat → Prop}
set_option maxRecDepth 100000 in
theorem smactive_any (E : ME w k q M H) (s : Int) : Calls Tryz.prog 123 #[.pointer (some ⟨k, 0, none⟩), .int .i64 s] w fun e w' => e = .returned (.bool (decide (gdS s) && M.act s.toNat)) ∧ w = w' := by
  have e0 : w.cell? ⟨k, 0, none⟩ = some (.pointer (some ⟨q, 0, none⟩)) := E.has.cell 0
  have kl := E.kl
  have C := hide (xmactive_any E.mx s)
  go_enter Tryz.func123, Tryz.ntmps123
  go_wp2_with fail
  refine (unhide C).mono ?_
  rintro e w2 ⟨rfl, rfl⟩
  go_wp2_with fail
  go_ret
  exact ⟨rfl, rfl⟩
set_option maxRecDepth 100000 in
theorem smlockOf_any (E : ME w k q M H) (s : Int) (nm : ByteArray) : Calls Tryz.prog 131 #[.pointer (some ⟨k, 0, none⟩), .int .i64 s, .string nm] w fun e w' => e = .returned (.int .i64 (if gdS s then M.lk s.toNat nm else 0)) ∧ w = w' := by
  have e0 : w.cell? ⟨k, 0, none⟩ = some (.pointer (some ⟨q, 0, none⟩)) := E.has.cell 0
  have kl := E.kl
  have C := xmlockOf_any E.mx s nm
  obtain ⟨z, hz⟩ : ∃ z : Int, (if gdS s then M.lk s.toNat nm else 0) = z := ⟨_, rfl⟩
  rw [hz] at C ⊢
  have C := hide C
  clear hz
  go_enter Tryz.func131, Tryz.ntmps131
  go_wp2_with fail
  refine (unhide C).mono ?_
  rintro e w2 ⟨rfl, rfl⟩
  go_wp2_with fail
  go_ret
  exact ⟨rfl, rfl⟩
set_option maxRecDepth 100000 in
theorem smclone_any (E : ME w k q M H) : Calls Tryz.prog 22 #[.pointer (some ⟨k, 0, none⟩)] w fun e w' => ∃ k' q' H', e = .returned (.pointer (some ⟨k', 0, none⟩)) ∧ ME w' k' q' M H' ∧ w.heap.size ≤ k' ∧ (∀ b, H' b → w.heap.size ≤ b) ∧ Only (fun _ => False) w w' := by
  have e0 : w.cell? ⟨k, 0, none⟩ = some (.pointer (some ⟨q, 0, none⟩)) := E.has.cell 0
  have kl := E.kl
  have C := hide (xmclone_any E.mx)
  go_enter Tryz.func22, Tryz.ntmps22
  go_wp2_with fail
  refine (unhide C).mono ?_
  rintro e w2 ⟨n, H', rfl, hX, hH, o⟩
  have oA : Only (fun _ => False) w2 (w2.alloc (.cells #[.pointer (some ⟨n, 0, none⟩)] 115)) := (Only.refl _ _).alloc _
  have N := Has.new w2 #[.pointer (some ⟨n, 0, none⟩)] 115
  have FF := hide (show ∃ k' q' H', Ending.returned (.pointer (some ⟨w2.heap.size, 0, none⟩)) = .returned (.pointer (some ⟨k', 0, none⟩)) ∧ ME (w2.alloc (.cells #[.pointer (some ⟨n, 0, none⟩)] 115)) k' q' M H' ∧ w.heap.size ≤ k' ∧ (∀ b, H' b → w.heap.size ≤ b) ∧ Only (fun _ => False) w (w2.alloc (.cells #[.pointer (some ⟨n, 0, none⟩)] 115)) from ⟨_, n, H', rfl, ⟨N, hX.quiet oA, fun c => by have := hX.lt _ c; omega⟩, o.size, hH, o.trans oA (fun _ _ e => e)⟩)
  clear hX hH o oA N C
  go_wp2_with fail
  go_ret
  exact unhide FF
set_option maxRecDepth 100000 in
theorem smview_any (E : ME w k q M H) (s : Int) (nm : ByteArray) : Calls Tryz.prog 72 #[.pointer (some ⟨k, 0, none⟩), .int .i64 s, .string nm] w (FrR w (anV M s nm).rows (anV M s nm).e) := by
  have e0 : w.cell? ⟨k, 0, none⟩ = some (.pointer (some ⟨q, 0, none⟩)) := E.has.cell 0
  have kl := E.kl
  have C := hide (xmview_any E.mx s nm)
  generalize (anV M s nm).rows = R at *
  generalize (anV M s nm).e = z at *
  go_enter Tryz.func72, Tryz.ntmps72
  go_wp2_with fail
  refine (unhide C).mono ?_
  rintro e w2 ⟨v, Z, rfl, h⟩
  have HH := hide h
  clear h C
  go_wp2_with fail
  go_ret2
  exact ⟨v, Z, rfl, unhide HH⟩
set_option maxRecDepth 100000 in
theorem smtables_any (E : ME w k q M H) : Calls Tryz.prog 65 #[.pointer (some ⟨k, 0, none⟩)] w (NmP w (namesD M.com)) := by
  have e0 : w.cell? ⟨k, 0, none⟩ = some (.pointer (some ⟨q, 0, none⟩)) := E.has.cell 0
  have kl := E.kl
  have ql := E.mx.kl
  obtain ⟨v, l, D⟩ := E.mx.mdb0
  have C := hide (mdbNames_any D)
  clear D
  go_enter Tryz.func65, Tryz.ntmps65
  go_wp2_with fail
  refine (unhide C).mono ?_
  rintro e w2 ⟨nv, rfl, h⟩
  have HH := hide h
  clear h C
  go_wp2_with fail
  go_ret
  exact ⟨nv, rfl, unhide HH⟩
/-- What SchemaOf answers: the columns new. -/
def ShP (w : World) (sc : Scq) (e : Ending) (w' : World) : Prop := ∃ ca cn cc, e = .returned (.tuple #[.agg #[.string sc.nm, .slice ca cn cc, .int .i64 sc.pk, .int .i64 sc.ix], .int .i64 sc.z]) ∧ OwnC w' (.slice ca cn cc) sc.cols ∧ Newer w (.slice ca cn cc) ∧ sc.cols.length ≤ 3 ∧ Only (fun _ => False) w w'
set_option maxRecDepth 100000 in
theorem smschemaOf_any (E : ME w k q M H) (nm : ByteArray) : Calls Tryz.prog 125 #[.pointer (some ⟨k, 0, none⟩), .string nm] w (ShP w (scqD M.com nm)) := by
  have o0 : Only (fun _ => False) w (w.alloc (.cells #[.string ⟨#[]⟩, .slice none 0 0, .int .i64 0, .int .i64 0] 79)) := (Only.refl _ w).alloc _
  have N0 := Has.new w #[.string ⟨#[]⟩, .slice none 0 0, .int .i64 0, .int .i64 0] 79
  have E1 := E.quiet o0
  have e0 : (w.alloc (.cells #[.string ⟨#[]⟩, .slice none 0 0, .int .i64 0, .int .i64 0] 79)).cell? ⟨k, 0, none⟩ = some (.pointer (some ⟨q, 0, none⟩)) := E1.has.cell 0
  have C1 := mschQ_any E1.mx nm
  have ql := E1.mx.kl
  have kl := E1.kl
  obtain ⟨sc, hV⟩ : ∃ b, scqD M.com nm = b := ⟨_, rfl⟩
  rw [hV] at C1 ⊢
  have C1 := hide C1
  have HR := hide (And.intro N0 o0)
  have hsz : (w.alloc (.cells #[.string ⟨#[]⟩, .slice none 0 0, .int .i64 0, .int .i64 0] 79)).heap.size = w.heap.size + 1 := by simp
  have HSZ := hide hsz
  clear E E1 hV o0 N0 hsz
  go_enter Tryz.func125, Tryz.ntmps125
  go_upto_region 1 with fail
  generalize w.alloc (.cells #[.string ⟨#[]⟩, .slice none 0 0, .int .i64 0, .int .i64 0] 79) = w0 at *
  generalize hH : w.heap.size = G at *
  have HG0 := hide hH
  go_wp2_with fail
  refine (unhide C1).mono ?_
  rintro e w1 ⟨_, rfl, ca, cn, cc, rfl, h1, h2, h3, o⟩
  have N1 := (unhide HR).1.keep o (fun e => e)
  have hz := unhide HSZ
  have H5 := has_setAll [.string sc.nm, .slice ca cn cc, .int .i64 sc.pk, .int .i64 sc.ix] N1 rfl
  have O5 := only_setW G [.string sc.nm, .slice ca cn cc, .int .i64 sc.pk, .int .i64 sc.ix] 0 w1
  have r0 : w1.cell? ⟨G, 0, none⟩ = some (.string ⟨#[]⟩) := N1.cell 0
  have r1 : w1.cell? ⟨G, 1, none⟩ = some (.slice none 0 0) := N1.cell 1
  have r2 : w1.cell? ⟨G, 2, none⟩ = some (.int .i64 0) := N1.cell 2
  have r3 : w1.cell? ⟨G, 3, none⟩ = some (.int .i64 0) := N1.cell 3
  have f0 := N1.free 0
  have f1 := N1.free 1
  have f2 := N1.free 2
  have f3 := N1.free 3
  have rl := N1.lt
  have FF := hide (And.intro H5 (show ShP w sc (.returned (.tuple #[.agg #[.string sc.nm, .slice ca cn cc, .int .i64 sc.pk, .int .i64 sc.ix], .int .i64 sc.z])) (setW G [.string sc.nm, .slice ca cn cc, .int .i64 sc.pk, .int .i64 sc.ix] 0 w1) from ⟨ca, cn, cc, rfl, h1.keep O5 (fun b hb (e : b = G) => by have := h2 b hb; omega), fun b hb => by have := h2 b hb; omega, h3, ((unhide HR).2.trans o (fun _ _ e => e)).lateS O5 (fun b (e : b = G) => by omega)⟩))
  simp only [setW, Nat.zero_add, Nat.reduceAdd] at FF
  clear H5 O5 h1 h2 h3 o N1 hz C1
  go_wp2_with fail
  refine bodyPost_ret (sres_sch rfl _ rfl (unhide FF).1 rfl) rfl ?_
  exact (unhide FF).2
end
end Go.Proofs.Qxb6500412aGreat
