/-
  OWN WORK. THE LAW OF DIFF: Tweak, the first Del line goes.
-/
import Derived.Test.Qxb6500416aDL19
namespace Go.Proofs.Qxb6500416a
open Go.RowKit Go.PlainAid
set_option linter.unusedSimpArgs false
set_option linter.unusedVariables false

set_option maxRecDepth 100000 in
set_option maxHeartbeats 8000000 in
theorem tweak_1 {B : Nat} {w : World} {l e g cap : Nat} {mp r0 r1 k0 k1 k2 k3 : Value} {tx : ByteArray} {hs : List HV} {p : List Hk} {A0 A1 : List Fl} {L : List Str} {F R M : Nat → Prop} (h : LS B w l e mp (.slice (some ⟨g, 0, none⟩) p.length cap) r0 r1 k0 k1 k2 k3 tx hs p A0 A1 L F R M) (a : Nat) (ha : a < p.length) (b : Int) (s : ByteArray) (hd : p[a].del.length ≠ 0) :
    Calls Try.prog 15 #[.pointer (some ⟨l, 0, none⟩), .int .i64 a, .int .i64 b, .int .i64 1, .string s] w fun x w' => x = .returned (.tuple #[]) ∧ Stp B l w w' := by
  have has : a < hs.length := by have := h.pat.len; omega
  obtain ⟨x, hx⟩ : ∃ x, x = wrap64 (p[a].at_ + b) := ⟨_, rfl⟩
  have hxr : -9223372036854775808 ≤ x ∧ x ≤ 9223372036854775807 := by
    rw [hx]
    exact wrap64_in _
  have b1 : decide ((a : Int) < 0) = false := decide_eq_false (by omega)
  have b2 : decide ((p.length : Int) ≤ (a : Int)) = false := decide_eq_false (by omega)
  have b3 : (a : Int) < (p.length : Int) := by omega
  obtain ⟨g', cap', _, ee, hgl, c0, c1, c3, hok⟩ := h.pat.at a ha
  obtain ⟨rfl, rfl⟩ : g = g' ∧ cap = cap' := by simpa using ee
  obtain ⟨cc, hgh⟩ := own_ty h.pat.1 g rfl
  obtain ⟨d1, d2, ed⟩ := own_len hok.del
  have f0 := hgh.free (a * 3)
  have c2 := Has.cell h.lw 2
  have ll := Has.lt h.lw
  have hne : g ≠ l := Has.ne hgh h.lw (by decide)
  have e1 : ((p[a].del.length : Int) == 0) = false := by simpa using hd
  have hk := h.pb.all p[a] (List.getElem_mem ha)
  have h1 := h.at_ a ha has x hxr.1 hxr.2
  have o1 := donly1 (w := w) (p := g) (a * 3) (.int .i64 x)
  have gm : ∀ y, some y ∈ hvB hs → y ≠ g := h.pat.apart
  have hdv : OwnL (w.setCell ⟨g, a * 3, none⟩ (.int .i64 x)) hs[a].dv p[a].del := hok.del.keep o1 (fun y hy e => by
    obtain ⟨c', hc'⟩ := own_ty hok.del.row y hy
    subst e
    exact Has.ne hgh hc' (by decide) rfl)
  obtain ⟨vt, hrun, hS, ta, tn, tc, rfl⟩ := hdv.tail 1 (by omega)
  rw [ed] at c1 hrun
  have hl1 : (cutL p[a].del 1 p[a].del.length).length ≤ p[a].del.length := cutL_le _ _ _
  have hst : ∀ x ∈ cutL p[a].del 1 p[a].del.length, x.length ≤ 9223372036854775807 := fun x hx => hk.sd x (cutL_mem _ _ _ x hx)
  have hrun' : ∀ W, (Instr.slice 49 (.slice d1 p[a].del.length d2) (some (.int .i64 1)) none none).run Try.prog W = .ok (.slice ta tn tc) W := fun W => hrun W
  have q1' : (w.setCell ⟨g, a * 3, none⟩ (.int .i64 x)).cell? ⟨g, a * 3 + 1, none⟩ = some (.slice d1 p[a].del.length d2) := by
    obtain ⟨g9, cap9, _, e9, _, _, q9, _, _⟩ := h1.pat.at a (by simpa using ha)
    have eg : g = g9 := by simp at e9; exact e9.1
    subst eg
    simp only [List.getElem_set_self] at q9
    rw [ed] at q9
    exact q9
  have H := hide h
  have H1 := hide h1
  have HS := hide (And.intro hS (And.intro hl1 (And.intro hst (And.intro hk o1))))
  clear h h1 ee hgh hxr hok ed hdv hS hrun hl1 hst hk o1 gm
  go_enter Try.func15, Try.ntmps15
  go_upto_region 8 with fail
  rw [← hx]
  generalize w.setCell ⟨g, a * 3, none⟩ (.int .i64 x) = W1 at *
  obtain ⟨hS, hl1, hst, hk, o1⟩ := unhide HS
  have q2 := Has.cell (unhide H1).lw 2
  have ql := Has.lt (unhide H1).lw
  have o1z := o1.size
  have hgW : g < W1.heap.size := by omega
  have oD : Only (fun _ => False) W1 W1.drew := (Only.refl _ W1).drew
  have C := hide (copyLinesS_any (.slice ta tn tc) (cutL p[a].del 1 p[a].del.length) (hS.keep oD (fun _ _ h => h)) (by have := hk.del; omega))
  obtain ⟨cg, hcg⟩ := own_ty (unhide H1).pat.1 g rfl
  have HF : Hid (∀ W, Only (fun _ => False) W1.drew W → W.frozen? ⟨g, a * 3 + 1, none⟩ = false ∧ W.cell? ⟨g, a * 3 + 1, none⟩ = some (.slice d1 p[a].del.length d2) ∧ g < W.heap.size ∧ W.cell? ⟨l, 2, none⟩ = some (.slice (some ⟨g, 0, none⟩) p.length cap) ∧ l < W.heap.size) := hide (fun W hW => by
    have hZ := oD.trans hW (fun _ _ h => h)
    have hz := hZ.size
    exact ⟨(hcg.keep hZ (fun h => h)).free _, (World.cell?_of_block (hZ.block g hgW (fun h => h))).trans q1', by omega, (World.cell?_of_block (hZ.block l ql (fun h => h))).trans q2, by omega⟩)
  have HR : Hid (∀ (W : World) (q n c : Nat), Only (fun _ => False) W1.drew W → W1.drew.heap.size ≤ q → q < W.heap.size → OwnL W (.slice (some ⟨q, 0, none⟩) n c) (cutL p[a].del 1 p[a].del.length) → Stp B l w (W.setCell ⟨g, a * 3 + 1, none⟩ (.slice (some ⟨q, 0, none⟩) n c))) := hide (fun W q n c hW h1 h2 h3 => by
    have hZ := oD.trans hW (fun _ _ h => h)
    have hL := (unhide H1).newDel (cap := cap) (g := g) a (by simpa using ha) q n c _ hZ (by have := oD.size; omega) h2 h3 (by have := hk.del; omega) hst
    refine ⟨hL, ?_⟩
    have hb : B ≤ g := (unhide H).bR g ((unhide H).pat.2.2 g rfl)
    exact ((o1.mono (T := fun y => B ≤ y) (fun y _ e => by rw [e]; exact hb)).trans hZ (fun _ _ h => h.elim)).trans (donly1 (p := g) (a * 3 + 1) _) (fun y _ e => by rw [e]; exact hb))
  clear hS hl1 hst hk hcg
  go_region_with (go_at_call 24; refine (unhide C).mono ?_; rintro y w2 ⟨q, rfl, oq, o2, hq, hq'⟩; obtain ⟨y1, y2, y3, y4, y5⟩ := unhide HF w2 o2)
  all_goals
    have RR := hide (unhide HR w2 q _ _ o2 hq hq' oq)
    clear oq o2
    go_wp2_with fail
    go_end0
    exact ⟨rfl, unhide RR⟩
end Go.Proofs.Qxb6500416a
