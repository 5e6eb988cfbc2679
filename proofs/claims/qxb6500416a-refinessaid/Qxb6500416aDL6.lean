/-
  OWN WORK. THE LAW OF DIFF: OwnPatch (laid by tools/gen_dl6.py).
-/
import Derived.Test.Qxb6500416aDL5
namespace Go.Proofs.Qxb6500416a
open Go.RowKit Go.PlainAid
set_option linter.unusedSimpArgs false
set_option linter.unusedVariables false

theorem KL.keepT {S : Nat → Prop} {w w' : World} {e t sz : Nat} {pat : Nat → Value} {mv : Value} {M : Nat → Prop} (h : KL w e t sz pat mv M) (ho : Only S w w') (hS : ∀ y, S y → ¬ M y ∨ ∃ c t', Has w y c t' ∧ t' ≠ e ∧ t' ≠ t) : KL w' e t sz pat mv M := by
  obtain ⟨⟨xs, h1, h2, h3⟩, h4⟩ := h
  refine ⟨⟨xs, h1.keep ho (fun y hy hs => ?_), h2, fun x hx => ⟨(h3 x hx).1.keep ho (fun y hy hs => ?_), (h3 x hx).2⟩⟩, h4⟩
  · rcases hS y hs with h | ⟨c, t', hc, n1, _⟩
    · exact h (h4 y hy)
    · exact h1.ne hc (fun e' => n1 e'.symm) y hy rfl
  · rcases hS y hs with h | ⟨c, t', hc, _, n2⟩
    · exact h ((h3 x hx).2 y hy)
    · obtain ⟨g, n, rfl, _, hg⟩ := (h3 x hx).1
      simp [Value.ownBlock] at hy
      subst hy
      exact Has.ne hc hg n2 rfl
theorem KL.ty {w : World} {e t sz : Nat} {pat : Nat → Value} {mv : Value} {M : Nat → Prop} (h : KL w e t sz pat mv M) : ∀ y, mv.ownBlock = some y → ∃ c, Has w y c e := by
  obtain ⟨⟨xs, h1, _, _⟩, _⟩ := h
  intro y hy
  rcases h1 with ⟨rfl, _⟩ | ⟨g, o, cap, cur, rfl, hg, _⟩
  · simp [Value.ownBlock] at hy
  · simp [Value.ownBlock] at hy
    subst hy
    exact ⟨cur, hg⟩
theorem own_ty {w : World} {e size n : Nat} {v : Value} {xs : List Value} (h : w.ownsRow 0 e size v n xs) : ∀ y, v.ownBlock = some y → ∃ c, Has w y c e := by
  intro y hy
  rcases h.2 with ⟨rfl, _⟩ | ⟨g, cap, cur, rfl, _, hg, _⟩
  · simp [Value.ownBlock] at hy
  · simp [Value.ownBlock] at hy
    subst hy
    exact ⟨cur, hg⟩
theorem HvOk.ty {w : World} {G : Nat → Prop} : ∀ {hs : List HV} {ks : List Hk}, HvOk w G hs ks → ∀ y, some y ∈ hvB hs → ∃ c, Has w y c 9
  | [], [], _, y, hy => by simp [hvB] at hy
  | h :: hs, k :: ks, hh, y, hy => by
    have hy' : some y = h.dv.ownBlock ∨ some y = h.iv.ownBlock ∨ some y ∈ hvB hs := by simpa [hvB] using hy
    rcases hy' with e | e | e
    · exact own_ty hh.1.del.row y e.symm
    · exact own_ty hh.1.ins.row y e.symm
    · exact HvOk.ty hh.2 y e
  | [], k :: ks, hh, _, _ => hh.elim
  | h :: hs, [], hh, _, _ => hh.elim
theorem hvB_app (a b : List HV) : hvB (a ++ b) = hvB a ++ hvB b := by simp [hvB]
theorem Dst.at {hs : List HV} (hd : Dst hs) (i : Nat) (hi : i < hs.length) : (∀ y, hs[i].dv.ownBlock = some y → some y ∉ hvB (hs.take i)) ∧ (∀ y, hs[i].iv.ownBlock = some y → some y ∉ hvB (hs.take i)) ∧ (∀ y, hs[i].dv.ownBlock = some y → hs[i].iv.ownBlock ≠ some y) := by
  unfold Dst at hd
  have e : hs = hs.take i ++ ([hs[i]] ++ hs.drop (i + 1)) := by
    have := List.take_append_drop i hs
    rw [List.drop_eq_getElem_cons hi] at this
    exact this.symm
  rw [e, hvB_app, hvB_app, List.pairwise_append, List.pairwise_append] at hd
  obtain ⟨_, ⟨h2, _, _⟩, h1⟩ := hd
  have e2 : hvB [hs[i]] = [hs[i].dv.ownBlock, hs[i].iv.ownBlock] := by simp [hvB]
  rw [e2] at h1 h2
  refine ⟨fun y hy hm => ?_, fun y hy hm => ?_, fun y hy hy' => ?_⟩
  · rcases h1 _ hm hs[i].dv.ownBlock (by simp) with h | h
    · cases h
    · exact h hy.symm
  · rcases h1 _ hm hs[i].iv.ownBlock (by simp) with h | h
    · cases h
    · exact h hy.symm
  · simp at h2
    rcases h2 with h | h
    · rw [h] at hy; cases hy
    · exact h (hy.trans hy'.symm)
theorem hvB_take_succ (hs : List HV) (i : Nat) (hi : i < hs.length) : hvB (hs.take (i + 1)) = hvB (hs.take i) ++ [hs[i].dv.ownBlock, hs[i].iv.ownBlock] := by
  rw [List.take_succ_eq_append_getElem hi, hvB_snoc]
theorem hvB_take_sub (hs : List HV) (i : Nat) : ∀ y ∈ hvB (hs.take i), y ∈ hvB hs := by
  intro y hy
  have := List.take_append_drop i hs
  rw [← this, hvB_app]
  exact List.mem_append_left _ hy
/-- The lists of a patch as they are stamped one by one. -/
structure OpI (w : World) (l : Nat) (a0 a1 a2 a3 a4 a5 k0 k1 k2 k3 : Value) (M : Nat → Prop) (hs : List HV) (i : Nat) (kS : Value) (M1 : Nat → Prop) (wr : World) : Prop where
  lw : LW wr l a0 a1 a2 a3 a4 a5 kS k1 k2 k3
  kl : KL wr 49 9 1 patS kS M1
  up : ∀ y, M y → M1 y
  dn : ∀ y, M1 y → M y ∨ some y ∈ hvB (hs.take i) ∨ (w.heap.size ≤ y ∧ y < wr.heap.size)
  ho : Only (fun y => y = l ∨ k0.ownBlock = some y ∨ some y ∈ hvB (hs.take i)) w wr
  wh : ∀ y, kS.ownBlock = some y → k0.ownBlock = some y ∨ w.heap.size ≤ y
theorem OpI.step {w wr w1 w2 : World} {l : Nat} {a0 a1 a2 a3 a4 a5 k0 k1 k2 k3 kS ka kb : Value} {M M1 : Nat → Prop} {hs : List HV} {i : Nat} (hI : OpI w l a0 a1 a2 a3 a4 a5 k0 k1 k2 k3 M hs i kS M1 wr) (his : i < hs.length) (ho1 : Only (fun y => y = l ∨ hs[i].dv.ownBlock = some y ∨ kS.ownBlock = some y) wr w1) (hw1 : ∀ y, ka.ownBlock = some y → kS.ownBlock = some y ∨ wr.heap.size ≤ y) (hl2 : LW w2 l a0 a1 a2 a3 a4 a5 kb k1 k2 k3) (hk2 : KL w2 49 9 1 patS kb (Mx (Mx M1 hs[i].dv wr w1) hs[i].iv w1 w2)) (ho2 : Only (fun y => y = l ∨ hs[i].iv.ownBlock = some y ∨ ka.ownBlock = some y) w1 w2) (hw2 : ∀ y, kb.ownBlock = some y → ka.ownBlock = some y ∨ w1.heap.size ≤ y) : OpI w l a0 a1 a2 a3 a4 a5 k0 k1 k2 k3 M hs (i + 1) kb (Mx (Mx M1 hs[i].dv wr w1) hs[i].iv w1 w2) w2 := by
  have z0 := hI.ho.size
  have z1 := ho1.size
  have z2 := ho2.size
  have hkS : ∀ y, kS.ownBlock = some y → y < w.heap.size → k0.ownBlock = some y := fun y h hy => by
    rcases hI.wh y h with h | h
    · exact h
    · omega
  have hka : ∀ y, ka.ownBlock = some y → y < w.heap.size → k0.ownBlock = some y := fun y h hy => by
    rcases hw1 y h with h | h
    · exact hkS y h hy
    · omega
  have ms : ∀ y, (some y ∈ hvB (hs.take i) ∨ hs[i].dv.ownBlock = some y ∨ hs[i].iv.ownBlock = some y) → some y ∈ hvB (hs.take (i + 1)) := fun y h => by
    rw [hvB_take_succ hs i his]
    rcases h with h | h | h
    · exact List.mem_append_left _ h
    · simp [h]
    · simp [h]
  refine ⟨hl2, hk2, fun y h => .inl (.inl (hI.up y h)), fun y h => ?_, ?_, fun y h => ?_⟩
  · rcases h with (h | h | h) | h | h
    · rcases hI.dn y h with h | h | h
      · exact .inl h
      · exact .inr (.inl (ms y (.inl h)))
      · exact .inr (.inr ⟨h.1, by omega⟩)
    · exact .inr (.inl (ms y (.inr (.inl h))))
    · exact .inr (.inr ⟨by omega, by omega⟩)
    · exact .inr (.inl (ms y (.inr (.inr h))))
    · exact .inr (.inr ⟨by omega, by omega⟩)
  · refine ((hI.ho.mono (T := fun y => y = l ∨ k0.ownBlock = some y ∨ some y ∈ hvB (hs.take (i + 1))) (fun y _ h => ?_)).trans ho1 (fun y hy h => ?_)).trans ho2 (fun y hy h => ?_)
    · rcases h with h | h | h
      · exact .inl h
      · exact .inr (.inl h)
      · exact .inr (.inr (ms y (.inl h)))
    · rcases h with h | h | h
      · exact .inl h
      · exact .inr (.inr (ms y (.inr (.inl h))))
      · exact .inr (.inl (hkS y h hy))
    · rcases h with h | h | h
      · exact .inl h
      · exact .inr (.inr (ms y (.inr (.inr h))))
      · exact .inr (.inl (hka y h hy))
  · rcases hw2 y h with h | h
    · rcases hw1 y h with h | h
      · exact hI.wh y h
      · exact .inr (by omega)
    · exact .inr (by omega)
theorem OpI.fin {w wr : World} {l g n cap i : Nat} {a0 a1 a2 a3 a4 a5 k0 k1 k2 k3 kS : Value} {M M1 G : Nat → Prop} {hs : List HV} {cur : Array Value} (hI : OpI w l a0 a1 a2 a3 a4 a5 k0 k1 k2 k3 M hs i kS M1 wr) (hBl : ∀ y, some y ∈ hvB hs → G y ∧ y < w.heap.size) (hgG : G g) (hgl : g < w.heap.size) (hg : Has wr g cur 62) (hkT : ∀ y, k1.ownBlock = some y → ∃ c, Has wr y c 33) (W : World) (kv : Value) (h : LW W l a0 a1 a2 a3 a4 a5 kS kv k2 k3 ∧ KL W 33 62 3 patH kv (Mx M1 (.slice (some ⟨g, 0, none⟩) n cap) wr W) ∧ Only (fun y => y = l ∨ (Value.slice (some ⟨g, 0, none⟩) n cap).ownBlock = some y ∨ k1.ownBlock = some y) wr W ∧ (∀ y, kv.ownBlock = some y → k1.ownBlock = some y ∨ wr.heap.size ≤ y)) : ∃ k0' k1' M', LW W l a0 a1 a2 a3 a4 a5 k0' k1' k2 k3 ∧ KL W 49 9 1 patS k0' M' ∧ KL W 33 62 3 patH k1' M' ∧ (∀ y, M y → M' y) ∧ (∀ y, M' y → M y ∨ G y ∨ (w.heap.size ≤ y ∧ y < W.heap.size)) ∧ Only (fun y => y = l ∨ k0.ownBlock = some y ∨ k1.ownBlock = some y ∨ (G y ∧ y < w.heap.size)) w W := by
  obtain ⟨h1, h2, h3, _⟩ := h
  have z0 := hI.ho.size
  have z1 := h3.size
  refine ⟨kS, kv, _, h1, ?_, h2, fun y h => .inl (hI.up y h), fun y h => ?_, ?_⟩
  · refine (hI.kl.keepT h3 (fun y h => .inr ?_)).mono (fun y h => .inl h)
    rcases h with h | h | h
    · subst h; exact ⟨_, _, hI.lw, by decide, by decide⟩
    · simp [Value.ownBlock] at h; subst h; exact ⟨_, _, hg, by decide, by decide⟩
    · obtain ⟨c, hc⟩ := hkT y h; exact ⟨_, _, hc, by decide, by decide⟩
  · rcases h with h | h | h
    · rcases hI.dn y h with h | h | h
      · exact .inl h
      · exact .inr (.inl (hBl y (hvB_take_sub hs i _ h)).1)
      · exact .inr (.inr ⟨h.1, by omega⟩)
    · simp [Value.ownBlock] at h; subst h; exact .inr (.inl hgG)
    · exact .inr (.inr ⟨by omega, h.2⟩)
  · refine (hI.ho.mono (T := fun y => y = l ∨ k0.ownBlock = some y ∨ k1.ownBlock = some y ∨ (G y ∧ y < w.heap.size)) (fun y _ h => ?_)).trans h3 (fun y hy h => ?_)
    · rcases h with h | h | h
      · exact .inl h
      · exact .inr (.inl h)
      · exact .inr (.inr (.inr (hBl y (hvB_take_sub hs i _ h))))
    · rcases h with h | h | h
      · exact .inl h
      · simp [Value.ownBlock] at h; subst h; exact .inr (.inr (.inr ⟨hgG, hgl⟩))
      · exact .inr (.inr (.inl h))
set_option maxRecDepth 100000 in
set_option maxHeartbeats 16000000 in
theorem ownPatch_any {w : World} {l : Nat} {a0 a1 a2 a3 a4 a5 k0 k1 k2 k3 : Value} {M G : Nat → Prop} (hl : LW w l a0 a1 a2 a3 a4 a5 k0 k1 k2 k3) (hK0 : KL w 49 9 1 patS k0 M) (hK1 : KL w 33 62 3 patH k1 M) (v : Value) (hs : List HV) (p : List Hk) (hP : PatO w v hs p G) (hD : Dst hs) (hGM : ∀ y, G y → ¬ M y) (hlM : ¬ M l) (hpl : p.length ≤ 100000) :
    Calls Try.prog 23 #[.pointer (some ⟨l, 0, none⟩), v] w fun e w' => e = .returned (.tuple #[]) ∧ ∃ k0' k1' M', LW w' l a0 a1 a2 a3 a4 a5 k0' k1' k2 k3 ∧ KL w' 49 9 1 patS k0' M' ∧ KL w' 33 62 3 patH k1' M' ∧ (∀ y, M y → M' y) ∧ (∀ y, M' y → M y ∨ G y ∨ (w.heap.size ≤ y ∧ y < w'.heap.size)) ∧ Only (fun y => y = l ∨ k0.ownBlock = some y ∨ k1.ownBlock = some y ∨ (G y ∧ y < w.heap.size)) w w' := by
  have ll := Has.lt hl
  have hn0 := hP.len
  rcases hP.1.2 with ⟨rfl, h0⟩ | ⟨g, cap, cur, rfl, _, hg, hn, hcm, hsz, _⟩
  · obtain ⟨⟨xs, hkr, hx64, hxs⟩, hko⟩ := hK1
    obtain ⟨ka, kc, rfl⟩ := hkr.shape
    have c7 := Has.cell hl 7
    have HR := hide (And.intro hl (And.intro hK0 (And.intro (⟨⟨xs, hkr, hx64, hxs⟩, hko⟩ : KL w 33 62 3 patH (.slice ka xs.length kc) M) (Only.refl (fun y => y = l ∨ k0.ownBlock = some y ∨ (Value.slice ka xs.length kc).ownBlock = some y ∨ (G y ∧ y < w.heap.size)) w))))
    have b1 : decide ((64 : Int) < (xs.length : Int)) = false := decide_eq_false (by omega)
    clear hl hkr hxs hko hP hK0 hGM hD
    go_enter Try.func23, Try.ntmps23
    go_wp2_with fail
    go_loopw [4] (fun iv wr => iv = .int .i64 0 ∧ w = wr) (fun _ _ => 0)
    case atStart => exact ⟨rfl, rfl⟩
    case round =>
      obtain ⟨rfl, rfl⟩ := hrel
      go_wp2_with fail
      go_loopw [5] (fun iv wr => iv = .int .i64 0 ∧ w = wr) (fun _ _ => 0)
      case atStart => exact ⟨rfl, rfl⟩
      case round =>
        obtain ⟨rfl, rfl⟩ := hrel
        go_wp2_with fail
        go_end0
        obtain ⟨r1, r2, r3, r4⟩ := unhide HR
        exact ⟨rfl, _, _, M, r1, r2, r3, fun y h => h, fun y h => .inl h, r4⟩
  · have hgG : G g := hP.2.2 g rfl
    have hgl0 := lt_of_block hg
    have hi0_ : OpI w l a0 a1 a2 a3 a4 a5 k0 k1 k2 k3 M hs 0 k0 M w := ⟨hl, hK0, fun y h => h, fun y h => .inl h, Only.refl _ _, fun y h => .inl h⟩
    have hTy := fun y hy => hP.2.1.ty y hy
    have hBl := fun y hy => hP.2.1.blk y hy
    have hngl : g ≠ l := fun e => Has.ne (c := cur) hg hl (by decide) e
    have hk0g : k0.ownBlock ≠ some g := fun e => by
      obtain ⟨c, hc⟩ := hK0.ty g e
      exact Has.ne (c := cur) hg hc (by decide) rfl
    have hgv : some g ∉ hvB hs := fun e => by
      obtain ⟨c, hc⟩ := hTy g e
      exact Has.ne (c := cur) hg hc (by decide) rfl
    have hk0T := hK0.ty
    have hk0M := hK0.own
    have hnlB : some l ∉ hvB hs := fun e => by
      obtain ⟨c, hc⟩ := hTy l e
      exact Has.ne hl hc (by decide) rfl
    have hk0B : ∀ y, some y ∈ hvB hs → k0.ownBlock ≠ some y := fun y hy e => by
      obtain ⟨c, hc⟩ := hTy y hy
      obtain ⟨c', hc'⟩ := hk0T y e
      exact Has.ne hc hc' (by decide) rfl
    have hk1M := hK1.own
    have hk1T := hK1.ty
    have H0 := hide hi0_
    have HP := hide hP
    have HD := hide hD
    have HK1 := hide hK1
    have HTy := hide hTy
    have HBl := hide hBl
    have HGM := hide hGM
    have Hlw := hide hl
    have Hg := hide hg
    obtain ⟨n0, en0⟩ : ∃ n0, n0 = hs.length := ⟨_, rfl⟩
    rw [← en0]
    have hn0' : n0 = p.length := by omega
    subst hn0'
    clear hi0_ hP hD hK1 hTy hBl hGM hl hK0 hg en0
    go_enter Try.func23, Try.ntmps23
    go_wp2_with fail
    go_loopw [4] (fun iv wr => ∃ (i : Nat) (kS : Value) (M1 : Nat → Prop), iv = .int .i64 i ∧ i ≤ p.length ∧ OpI w l a0 a1 a2 a3 a4 a5 k0 k1 k2 k3 M hs i kS M1 wr) (fun iv _ => p.length - (intOf iv).toNat)
    case atStart => exact ⟨0, _, _, rfl, by omega, unhide H0⟩
    case round =>
      clear H0
      obtain ⟨i, kS, M1, rfl, hi, hI⟩ := hrel
      have ws := hI.ho.size
      by_cases hil : i < p.length
      · have b1 : decide ((i : Int) < (p.length : Int)) = true := decide_eq_true (by omega)
        have b2 : (i : Int) < (p.length : Int) := by omega
        have his : i < hs.length := by omega
        obtain ⟨g', cap', _, e, _, c0, c1, c2, hok⟩ := (unhide HP).at i hil
        obtain ⟨rfl, _, rfl⟩ : g = g' ∧ hs.length = p.length ∧ cap = cap' := by simpa using e
        obtain ⟨d1, d2, d3⟩ := (unhide HD).at i his
        have hsub := hvB_take_sub hs i
        have nS : ∀ y, y ≠ l → k0.ownBlock ≠ some y → some y ∉ hvB (hs.take i) → ¬ (y = l ∨ k0.ownBlock = some y ∨ some y ∈ hvB (hs.take i)) := fun y h1 h2 h3 h => by
          rcases h with h | h | h
          · exact h1 h
          · exact h2 h
          · exact h3 h
        have hgS := nS g hngl hk0g (fun h => hgv (hsub _ h))
        have c1r := (World.cell?_of_block (a := ⟨g, i * 3 + 1, none⟩) (hI.ho.block g hgl0 hgS)).trans c1
        have mdv : ∀ y, hs[i].dv.ownBlock = some y → some y ∈ hvB hs := fun y hy => hvB_take_sub hs (i + 1) _ (by rw [hvB_take_succ hs i his]; simp [hy])
        have miv : ∀ y, hs[i].iv.ownBlock = some y → some y ∈ hvB hs := fun y hy => hvB_take_sub hs (i + 1) _ (by rw [hvB_take_succ hs i his]; simp [hy])
        have hDr := hok.del.keep hI.ho (fun y hy => nS y (fun e => hnlB (e ▸ mdv y hy)) (hk0B y (mdv y hy)) (d1 y hy))
        have hNr := hok.ins.keep hI.ho (fun y hy => nS y (fun e => hnlB (e ▸ miv y hy)) (hk0B y (miv y hy)) (d2 y hy))
        have C1 := hide (own_any hI.lw hI.kl hs[i].dv p[i].del hDr (fun y hy hm => by
          rcases hI.dn y hm with h | h | h
          · exact unhide HGM y (unhide HBl y (mdv y hy)).1 h
          · exact d1 y hy h
          · have := (unhide HBl y (mdv y hy)).2; omega) (fun hm => by
          rcases hI.dn l hm with h | h | h
          · exact hlM h
          · exact hnlB (hsub _ h)
          · omega))
        have HI := hide hI
        have HNr := hide hNr
        have hD1 := hide d1
        have hD2 := hide d2
        have hD3 := hide d3
        have Hmd := hide mdv
        have Hmi := hide miv
        have HnS := hide nS
        have HgS := hide hgS
        have Hsub := hide hsub
        have hc2 := hide c2
        have hgr : g < wr.heap.size := by omega
        clear hI hNr hDr hok d1 d2 d3 mdv miv nS hgS hsub c0 c1 c2 e
        go_wp2_with fail
        refine (unhide C1).mono ?_
        clear C1
        rintro e w1 ⟨rfl, k0a, hl1, hk1, ho1, hw1⟩
        have z1 := ho1.size
        have hgS1 : ¬ (g = l ∨ hs[i].dv.ownBlock = some g ∨ kS.ownBlock = some g) := fun h => by
          rcases h with h | h | h
          · exact hngl h
          · exact hgv (unhide Hmd g h)
          · rcases (unhide HI).wh g h with h | h
            · exact hk0g h
            · omega
        have c2r := (World.cell?_of_block (a := ⟨g, i * 3 + 2, none⟩) ((ho1.block g hgr hgS1).trans ((unhide HI).ho.block g hgl0 (unhide HgS)))).trans (unhide hc2)
        have hkSy : ∀ y, some y ∈ hvB hs → kS.ownBlock ≠ some y := fun y hy h => by
          have := (unhide HBl y hy).2
          rcases (unhide HI).wh y h with h | h
          · exact hk0B y hy h
          · omega
        have hN1 := (unhide HNr).keep ho1 (fun y hy h => by
          rcases h with h | h | h
          · exact hnlB (h ▸ unhide Hmi y hy)
          · exact unhide hD3 y h hy
          · exact hkSy y (unhide Hmi y hy) h)
        have C2 := hide (own_any hl1 hk1 hs[i].iv p[i].ins hN1 (fun y hy hm => by
          have hyl := (unhide HBl y (unhide Hmi y hy)).2
          rcases hm with hm | hm | hm
          · rcases (unhide HI).dn y hm with h | h | h
            · exact unhide HGM y (unhide HBl y (unhide Hmi y hy)).1 h
            · exact unhide hD2 y hy h
            · omega
          · exact unhide hD3 y hm hy
          · omega) (fun hm => by
          rcases hm with hm | hm | hm
          · rcases (unhide HI).dn l hm with h | h | h
            · exact hlM h
            · exact hnlB (unhide Hsub _ h)
            · omega
          · exact hnlB (unhide Hmd l hm)
          · omega))
        have HS := hide (fun (w2 : World) (kb : Value) h1 h2 h3 h4 => (unhide HI).step (w1 := w1) (w2 := w2) (ka := k0a) (kb := kb) his ho1 hw1 h1 h2 h3 h4)
        have hg1 : g < w1.heap.size := by omega
        clear hl1 hk1 ho1 hw1 hN1 hkSy hgS1 HNr HgS HnS c1r
        go_wp2_with fail
        refine (unhide C2).mono ?_
        clear C2
        rintro e w2 ⟨rfl, k0b, hl2, hk2, ho2, hw2⟩
        have HN := hide (unhide HS w2 k0b hl2 hk2 ho2 hw2)
        clear HS hl2 hk2 ho2 hw2
        go_wp2_with fail
        go_roundw
        case rel => exact ⟨i + 1, _, _, by go_num, by omega, unhide HN⟩
        case measure => simp [intOf]; omega
      · have b1 : decide ((i : Int) < (p.length : Int)) = false := decide_eq_false (by omega)
        have hgS : ¬ (g = l ∨ k0.ownBlock = some g ∨ some g ∈ hvB (hs.take i)) := fun h => by
          rcases h with h | h | h
          · exact hngl h
          · exact hk0g h
          · exact hgv (hvB_take_sub hs i _ h)
        have hgA : Has wr g cur 62 := (hI.ho.block g hgl0 hgS).trans (unhide Hg)
        have hkA : KL wr 33 62 3 patH k1 M1 := ((unhide HK1).keepT hI.ho (fun y h => .inr (by
          rcases h with h | h | h
          · subst h; exact ⟨_, _, unhide Hlw, by decide, by decide⟩
          · obtain ⟨c, hc⟩ := hk0T y h; exact ⟨_, _, hc, by decide, by decide⟩
          · obtain ⟨c, hc⟩ := unhide HTy y (hvB_take_sub hs i _ h); exact ⟨_, _, hc, by decide, by decide⟩))).mono hI.up
        have hlA := hI.lw
        have hvM : ∀ y, (Value.slice (some ⟨g, 0, none⟩) p.length cap).ownBlock = some y → ¬ M1 y := fun y hy hm => by
          simp [Value.ownBlock] at hy
          subst hy
          rcases hI.dn g hm with h | h | h
          · exact unhide HGM g hgG h
          · exact hgv (hvB_take_sub hs i _ h)
          · omega
        have HFIN := hide (fun (W : World) (kv : Value) => hI.fin (n := p.length) (cap := cap) (unhide HBl) hgG hgl0 hgA (fun y hy => hkA.ty y hy) W kv)
        clear hI hgS HTy HBl HGM Hlw Hg HK1 HD HP hk0T hk0M hk1M hk1T hk0B hnlB hgv hk0g
        generalize wr = WA at *
        obtain ⟨⟨xs, hkr, hx64, hxs⟩, hko⟩ := hkA
        generalize p.length = n0 at *
        have hl := hlA
        have hH : Has WA g cur 62 := hgA
        have hgl := hH.lt
        have hne_l : g ≠ l := Has.ne hH hl (by decide)
        have hgM : ¬ M1 g := hvM g rfl
        have hsz' : cur.size = cap * 3 := hsz
        rw [tab_of cur (cap * 3) hsz'] at hH
        have hst0 : tabV (cap * 3) (fun j => cur.getD j undef) = tabV (cap * 3) (stp 0 (fun j => cur.getD j undef) patH) := tabV_congr _ (fun j _ => by unfold stp; rw [if_neg (by omega)])
        rw [hst0] at hH
        generalize (fun j => cur.getD j undef) = old at *
        obtain ⟨i0, hi0, hz0, hz1, hz2⟩ := info_parts Try.infoHunks
        have hcm' : cap ≤ 9223372036854775807 := Nat.le_trans hcm (by unfold maxLen; omega)
        have s0 : (0 : Int) ≤ (cap : Int) := by omega
        have s1 : (cap : Int) ≤ (cap : Int) := by omega
        have HH := hide hH
        have HL := hide hl
        have HK := hide (And.intro hkr (And.intro hxs hko))
        clear hH hl hkr hxs hko hvM hgA hst0 hsz'
        go_wp2_with fail
        go_loopw [5] (fun iv wr => ∃ i : Nat, iv = .int .i64 i ∧ i ≤ cap ∧ Has wr g (tabV (cap * 3) (stp (i * 3) old patH)) 62 ∧ Only (fun y => y = g) WA wr) (fun iv _ => cap - (intOf iv).toNat)
        case atStart => exact ⟨0, rfl, by omega, by rw [Nat.zero_mul]; exact unhide HH, Only.refl _ _⟩
        case round =>
          clear HH
          obtain ⟨i, rfl, hi, hH, ho⟩ := hrel
          have hgr := hH.lt
          by_cases hil : i < cap
          · have b1 : decide ((i : Int) < (cap : Int)) = true := decide_eq_true (by omega)
            have b2 : (i : Int) < (cap : Int) := by omega
            have c0 := hH.cell (i * 3)
            rw [tabV_get _ _ _ (by omega)] at c0
            have c1 := hH.cell (i * 3 + 1)
            rw [tabV_get _ _ _ (by omega)] at c1
            have c2 := hH.cell (i * 3 + 2)
            rw [tabV_get _ _ _ (by omega)] at c2
            have f0 := hH.free (i * 3)
            have f1 := hH.free (i * 3 + 1)
            have f2 := hH.free (i * 3 + 2)
            have h1 := hH.set3 (.int .i64 (-1)) (.slice none 0 0) (.slice none 0 0) (by unfold patH; rw [if_pos (by omega)] <;> rfl) (by unfold patH; rw [if_neg (by omega)] <;> rfl) (by unfold patH; rw [if_neg (by omega)] <;> rfl)
            have HN := hide (And.intro h1 (((ho.trans (donly1 (p := g) (i * 3) (.int .i64 (-1))) (fun _ _ h => h)).trans (donly1 (p := g) (i * 3 + 1) (.slice none 0 0)) (fun _ _ h => h)).trans (donly1 (p := g) (i * 3 + 2) (.slice none 0 0)) (fun _ _ h => h)))
            generalize stp (i * 3) old patH (i * 3) = ov0 at *
            generalize stp (i * 3) old patH (i * 3 + 1) = ov1 at *
            generalize stp (i * 3) old patH (i * 3 + 2) = ov2 at *
            clear hH ho h1
            go_wp2_with fail
            go_roundw
            case rel => exact ⟨i + 1, by go_num, by omega, unhide HN⟩
            case measure => simp [intOf]; omega
          · have b1 : decide ((i : Int) < (cap : Int)) = false := decide_eq_false (by omega)
            have ei : i = cap := by omega
            subst ei
            have hp : tabV (i * 3) (stp (i * 3) old patH) = tabV (i * 3) patH := by
              apply tabV_congr
              intro j hj
              unfold stp
              rw [if_pos hj]
            rw [hp] at hH
            obtain ⟨hkr, hxs, hko⟩ := unhide HK
            have nM : ∀ y, M1 y → y ≠ g := fun y hy e => hgM (e ▸ hy)
            have hkr1 := hkr.keep ho (fun y hy => nM y (hko y hy))
            have hxs1 : ∀ x ∈ xs, Stm wr 62 3 patH x ∧ ∀ y, x.ownBlock = some y → M1 y := fun x hx => ⟨(hxs x hx).1.keep ho (fun y hy => nM y ((hxs x hx).2 y hy)), (hxs x hx).2⟩
            have hl1 := (unhide HL).keep ho (fun h => hne_l h.symm)
            obtain ⟨ka, kc, rfl⟩ := hkr1.shape
            have ws := ho.size
            have c6 := Has.cell hl1 7
            have ll1 := Has.lt hl1
            by_cases hc0 : 0 < i
            · have d1 : decide ((0 : Int) < (i : Int)) = true := decide_eq_true (by omega)
              have d1n : decide (0 < i) = true := decide_eq_true hc0
              have hnew : Stm wr 62 3 patH (.slice (some ⟨g, 0, none⟩) i i) := ⟨g, i, rfl, hcm', hH⟩
              have KR := hide hkr1
              have XS := hide hxs1
              have L1 := hide hl1
              have HO := hide ho
              have NW := hide hnew
              have KO := hide hko
              have hka : KeptRow (wr.alloc (.cells #[.slice (some ⟨g, 0, none⟩) i i] 33)) 33 (.slice ka xs.length kc) xs := hkr1.keep ((Only.refl (fun _ => False) wr).alloc _) (fun _ _ h => h)
              clear hkr hxs hko hkr1 hxs1 hl1 ho hnew hH hp HK HL nM
              go_wp2_with (at_builtin; refine wpList_append_kept _ rfl _ _ 37 rfl 33 i0 _ 24 Try.underlying37 hi0 hz0 hz1 hz2 rfl _ xs rfl hka ⟨wr.heap.size, 0, none⟩ 1 (.slice (some ⟨g, 0, none⟩) i i) rfl ?c1 ?c2 ?c3 ?c4 ?_)
              try (case c1 => exact news_ok _ _ _ _ rfl)
              case c2 => rfl
              case c3 => unfold maxLen; omega
              case c4 => omega
              intro k4 w4 hk4 hgrow hwhere
              have hst4 := kept_push (unhide KR) (by decide) (fun x hx => (unhide XS x hx).1) (unhide NW) hgrow
              have oG := own_only hgrow
              have hl4 := (unhide L1).keep oG (fun e => (unhide KR).ne (unhide L1) (by decide) _ e rfl)
              have hsz4 : (xs ++ [Value.slice (some ⟨g, 0, none⟩) i i]).length = xs.length + 1 := by simp
              obtain ⟨gg, oo, cc, ek4, hgg4, _⟩ := hk4.at 0 (by rw [hsz4]; omega)
              rw [hsz4] at ek4
              subst ek4
              have s4 := oG.size
              have hM4 : ∀ x ∈ xs ++ [Value.slice (some ⟨g, 0, none⟩) i i], ∀ y, x.ownBlock = some y → M1 y ∨ (Value.slice (some ⟨g, 0, none⟩) n0 i).ownBlock = some y := fun x hx y hy => by
                rcases List.mem_append.1 hx with hx | hx
                · exact .inl ((unhide XS x hx).2 y hy)
                · simp at hx; subst hx; exact .inr hy
              have hgg : M1 gg ∨ WA.heap.size ≤ gg := by
                rcases hwhere gg rfl with e | e
                · exact .inl (unhide KO gg e)
                · exact .inr (by omega)
              have hgw : (Value.slice ka xs.length kc).ownBlock = some gg ∨ WA.heap.size ≤ gg := by
                rcases hwhere gg rfl with e | e
                · exact .inl e
                · exact .inr (by omega)
              have Hgw := hide hgw
              have hho : Only (fun y => y = l ∨ (Value.slice (some ⟨g, 0, none⟩) n0 i).ownBlock = some y ∨ (Value.slice ka xs.length kc).ownBlock = some y) WA w4 := ((unhide HO).mono (fun y _ e => .inr (.inl (by rw [e]; rfl)))).trans oG (fun y _ e => .inr (.inr e))
              have r6 := Has.cell hl4 7
              have z6 := Has.free hl4 7
              have ll4 := Has.lt hl4
              have nll : gg ≠ l := fun e => hk4.ne hl4 (by decide) gg rfl e
              have nst : ∀ x ∈ xs ++ [Value.slice (some ⟨g, 0, none⟩) i i], ∀ y, x.ownBlock = some y → y ≠ l := fun x hx y hy e => by
                obtain ⟨g2, n2, e2, _, h2⟩ := hst4 x hx
                subst e2
                simp [Value.ownBlock] at hy
                subst hy
                exact Has.ne h2 hl4 (by decide) e
              have HF := hide (fun (kv : Value) (ys : List Value) (hy : KeptRow w4 33 kv ys) (hl64 : ys.length ≤ 64) (hsub : ∀ x ∈ ys, x ∈ xs ++ [Value.slice (some ⟨g, 0, none⟩) i i]) (hkb : ∀ y, kv.ownBlock = some y → y = gg) (W : World) (hW : Only (fun y => y = l) w4 W) => And.intro (⟨⟨ys, hy.keep hW (fun y hy' e => nll ((hkb y hy').symm.trans e)), hl64, fun x hx => ⟨(hst4 x (hsub x hx)).keep hW (fun y hy' e => nst x (hsub x hx) y hy' e), fun y hy' => by
                  rcases hM4 x (hsub x hx) y hy' with h | h
                  · exact .inl h
                  · exact .inr (.inl h)⟩⟩, fun y hy' => by
                  have hwz := hW.size
                  rw [hkb y hy']
                  rcases hgg with h | h
                  · exact .inl h
                  · exact .inr (.inr ⟨h, by omega⟩)⟩ : KL W 33 62 3 patH kv (Mx M1 (.slice (some ⟨g, 0, none⟩) n0 i) WA W)) (hho.trans hW (fun y _ e => .inl e)))
              have HL4 := hide hl4
              have HK4 := hide hk4
              by_cases h65 : xs.length + 1 ≤ 64
              · have b9 : decide ((64 : Int) < (xs.length : Int) + 1) = false := decide_eq_false (by omega)
                have HR := hide (And.intro (hl4.set7 (.slice (some ⟨gg, oo, none⟩) (xs.length + 1) cc)) (unhide HF _ _ hk4 (by rw [hsz4]; exact h65) (fun x hx => hx) (fun y hy => by simp [Value.ownBlock] at hy; exact hy.symm) _ (donly1 7 (.slice (some ⟨gg, oo, none⟩) (xs.length + 1) cc))))
                clear hl4 hst4 oG hk4 hgrow hwhere hM4 hgg hgw hho nst HF KR XS L1 HO NW KO hka
                go_wp2_with fail
                go_end0
                exact ⟨rfl, unhide HFIN _ _ ⟨(unhide HR).1, (unhide HR).2.1, (unhide HR).2.2, fun y hy => by
                  simp [Value.ownBlock] at hy
                  subst hy
                  exact unhide Hgw⟩⟩
              · have hx65 : xs.length + 1 = 65 := by omega
                obtain ⟨hcc, hkt, htl⟩ := kept_drop hk4 (by rw [hsz4]; exact hx65)
                have hcc1 : ¬ cc = 1 := by omega
                have hKF := unhide HF _ _ hkt (by omega) (fun x hx => List.mem_of_mem_tail hx) (fun y hy => by simp [Value.ownBlock] at hy; exact hy.symm)
                have HKF := hide hKF
                rw [hx65]
                have hl5 := hl4.set7 (.slice (some ⟨gg, oo, none⟩) 65 cc)
                have HL5 := hide hl5
                have o5 := donly1 (w := w4) (p := l) 7 (.slice (some ⟨gg, oo, none⟩) 65 cc)
                clear hl4 hst4 oG hk4 hgrow hwhere hM4 hgg hgw hho nst HF KR XS L1 HO NW KO hka hl5 hKF hkt htl HK4 HL4
                go_upto_region 13 with fail
                generalize w4.setCell ⟨l, 7, none⟩ (.slice (some ⟨gg, oo, none⟩) 65 cc) = W5 at *
                have q6 := Has.cell (unhide HL5) 7
                have zz6 := Has.free (unhide HL5) 7
                have ll5 := Has.lt (unhide HL5)
                have HFN := hide (fun (W : World) (hW : Only (fun _ => False) W5 W) => And.intro (((unhide HL5).keep hW (fun h => h)).set7 (.slice (some ⟨gg, oo + 1, none⟩) 64 (cc - 1))) (unhide HKF _ ((o5.trans hW (fun _ _ h => h.elim)).trans (donly1 (p := l) 7 (.slice (some ⟨gg, oo + 1, none⟩) 64 (cc - 1))) (fun _ _ h => h))))
                have oD := Only.refl (fun _ => False) W5
                clear o5 HL5 HKF r6 z6
                go_region
                all_goals
                  go_wp2_with fail
                  go_end0
                  have HG : ∀ y, (Value.slice (some ⟨gg, oo + 1, none⟩) 64 (cc - 1)).ownBlock = some y → (Value.slice ka xs.length kc).ownBlock = some y ∨ WA.heap.size ≤ y := fun y hy => by
                    simp [Value.ownBlock] at hy
                    subst hy
                    exact unhide Hgw
                  first
                  | exact ⟨rfl, unhide HFIN _ _ ⟨(unhide HFN _ oD).1, (unhide HFN _ oD).2.1, (unhide HFN _ oD).2.2, HG⟩⟩
                  | exact ⟨rfl, unhide HFIN _ _ ⟨(unhide HFN _ oD.drew).1, (unhide HFN _ oD.drew).2.1, (unhide HFN _ oD.drew).2.2, HG⟩⟩
                  | exact ⟨rfl, unhide HFIN _ _ ⟨(unhide HFN _ (oD.drewO _)).1, (unhide HFN _ (oD.drewO _)).2.1, (unhide HFN _ (oD.drewO _)).2.2, HG⟩⟩
            · have d1 : decide ((0 : Int) < (i : Int)) = false := decide_eq_false (by omega)
              have d1n : decide (0 < i) = false := decide_eq_false hc0
              have b9 : decide ((64 : Int) < (xs.length : Int)) = false := decide_eq_false (by omega)
              have HR := hide (And.intro hl1 (And.intro (⟨⟨xs, hkr1, hx64, fun x hx => ⟨(hxs1 x hx).1, fun y hy => .inl ((hxs1 x hx).2 y hy)⟩⟩, fun y hy => .inl (hko y hy)⟩ : KL wr 33 62 3 patH (.slice ka xs.length kc) (Mx M1 (.slice (some ⟨g, 0, none⟩) n0 i) WA wr)) (ho.mono (T := fun y => y = l ∨ (Value.slice (some ⟨g, 0, none⟩) n0 i).ownBlock = some y ∨ (Value.slice ka xs.length kc).ownBlock = some y) (fun y _ e => .inr (.inl (by rw [e]; rfl))))))
              clear hkr hxs hko hkr1 hxs1 hl1 ho hH hp HK HL nM
              go_wp2_with fail
              go_end0
              exact ⟨rfl, unhide HFIN _ _ ⟨(unhide HR).1, (unhide HR).2.1, (unhide HR).2.2, fun y hy => .inl hy⟩⟩
end Go.Proofs.Qxb6500416a
