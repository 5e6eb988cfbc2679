/-
  OWN WORK. THE B-TREE: pages read as nodes and laid as nodes.
-/
import Derived.Test.Qxb6500412aGreatBDec2
import Derived.Test.Qxb6500412aGreatBEnc2
namespace Go.Proofs.Qxb6500412aGreat
open Go.RowKit Go.PlainAid
set_option linter.unusedSimpArgs false
set_option linter.unusedVariables false

theorem lfF_key {n m : Nat} {es : Nat → KV} {i o : Nat} (hi : i < m) (ho : o < 17) : lfF n m es (4 + i * 34 + o) = fld (es i).1 o := by
  unfold lfF
  have e1 : (4 + i * 34 + o - 4) / 34 = i := by omega
  have e2 : (4 + i * 34 + o - 4) % 34 = o := by omega
  rw [if_neg (by omega), if_neg (by omega), if_neg (by omega), e1, e2, if_pos hi, if_pos ho]
theorem lfF_val {n m : Nat} {es : Nat → KV} {i o : Nat} (hi : i < m) (ho : o < 17) : lfF n m es (4 + i * 34 + 17 + o) = fld (es i).2 o := by
  unfold lfF
  have e1 : (4 + i * 34 + 17 + o - 4) / 34 = i := by omega
  have e2 : (4 + i * 34 + 17 + o - 4) % 34 = 17 + o := by omega
  rw [if_neg (by omega), if_neg (by omega), if_neg (by omega), e1, e2, if_pos hi, if_neg (by omega)]
  congr 1
  omega
theorem inF_key {n c m : Nat} {kids : Nat → Nat} {seps : Nat → ByteArray} {i o : Nat} (hi : i < m) (ho : o < 17) : inF n c m kids seps (8 + i * 17 + o) = fld (seps i) o := by
  unfold inF
  have e1 : (8 + i * 17 + o - 8) / 17 = i := by omega
  have e2 : (8 + i * 17 + o - 8) % 17 = o := by omega
  rw [if_neg (by omega), if_neg (by omega), if_neg (by omega), if_neg (by omega), e1, e2, if_pos hi]
theorem fld0 (s : ByteArray) : fld s 0 = s.size := rfl
theorem lpage {l : List KV} (h3 : l.length ≤ 3) (h16 : ∀ e ∈ l, e.1.size ≤ 16 ∧ e.2.size ≤ 16) : LPage (page (.lf l)) l.length (fun i => l.getD i kvD) := by
  show LPage (strF (lfF l.length l.length (fun i => l.getD i kvD))) _ _
  have hes : ∀ i, i < l.length → (l.getD i kvD).1.size ≤ 16 ∧ (l.getD i kvD).2.size ≤ 16 := fun i hi => by
    rw [List.getD_eq_getElem?_getD, List.getElem?_eq_getElem hi]
    exact h16 _ (List.getElem_mem hi)
  have hlt := lfF_lt (n := l.length) (m := l.length) (es := fun i => l.getD i kvD) (by omega) hes
  have at_ : ∀ j, j < 128 → byteAt (strF (lfF l.length l.length (fun i => l.getD i kvD))) j = lfF l.length l.length (fun i => l.getD i kvD) j := fun j hj => strF_at _ j hj (hlt j)
  refine ⟨strF_size _, ?_, ?_, h3, fun i hi => ⟨?_, (hes i hi).1⟩, fun i hi => ⟨?_, (hes i hi).2⟩, fun i hi => ?_, fun i hi => ?_⟩
  · rw [at_ 0 (by omega)]; rfl
  · rw [at_ 1 (by omega)]; rfl
  · rw [at_ _ (by omega)]
    exact lfF_key (o := 0) hi (by omega)
  · rw [at_ _ (by omega)]
    exact lfF_val (o := 0) hi (by omega)
  · have := (hes i hi).1
    exact fld_cut (hes i hi).1 (by omega) (fun o h1 h2 => lfF_key hi (by omega))
  · have := (hes i hi).2
    exact fld_cut (at_ := 4 + i * 34 + 17) (hes i hi).2 (by omega) (fun o h1 h2 => lfF_val hi (by omega))
theorem repL_dec (l : List KV) : RepL (decN l.length l.length (fun i => l.getD i kvD)) l := by
  refine ⟨rfl, rfl, fun i e he => ?_⟩
  have hi := get_lt he
  have hg : l.getD i kvD = e := by rw [List.getD_eq_getElem?_getD, he]; rfl
  refine ⟨?_, ?_⟩
  · show cpF (fun t => (l.getD t kvD).1) 0 l.length nd0.K i = _
    rw [cpF_lt _ _ _ _ _ hi]
    show (l.getD i kvD).1 = _
    rw [hg]
  · show cpF (fun t => (l.getD t kvD).2) 0 l.length nd0.V i = _
    rw [cpF_lt _ _ _ _ _ hi]
    show (l.getD i kvD).2 = _
    rw [hg]
def kidD (l : List (ByteArray × Nat)) (i : Nat) : Nat := (l.map (fun e => e.2)).getD i 0
def sepD (l : List (ByteArray × Nat)) (i : Nat) : ByteArray := (l.tail.map (fun e => e.1)).getD i ⟨#[]⟩
theorem kidD_at {l : List (ByteArray × Nat)} {i : Nat} {e : ByteArray × Nat} (h : l[i]? = some e) : kidD l i = e.2 := by
  unfold kidD
  simp [List.getD_eq_getElem?_getD, h]
theorem sepD_at {l : List (ByteArray × Nat)} {i : Nat} {e : ByteArray × Nat} (h : l[i + 1]? = some e) : sepD l i = e.1 := by
  unfold sepD
  simp [List.getD_eq_getElem?_getD, List.getElem?_tail, h]
theorem ipage {l : List (ByteArray × Nat)} (h1 : 1 ≤ l.length) (h4 : l.length ≤ 4) (h256 : ∀ e ∈ l, e.2 < 256) (h16 : ∀ e ∈ l, e.1.size ≤ 16) : IPage (page (.inn (l.map (fun e => e.2)) (l.tail.map (fun e => e.1)))) l.length (kidD l) (sepD l) := by
  have e0 : page (.inn (l.map (fun e => e.2)) (l.tail.map (fun e => e.1))) = strF (inF l.length l.length (l.length - 1) (kidD l) (sepD l)) := by
    unfold page pageF
    simp only [List.length_map, List.length_tail]
    rfl
  rw [e0]
  have hk : ∀ i, i < l.length → kidD l i < 256 := fun i hi => by
    obtain ⟨e, he⟩ := get_ex hi
    rw [kidD_at he]
    exact h256 e (List.mem_of_getElem? he)
  have hs : ∀ i, i < l.length - 1 → (sepD l i).size ≤ 16 := fun i hi => by
    obtain ⟨e, he⟩ := get_ex (l := l) (i := i + 1) (by omega)
    rw [sepD_at he]
    exact h16 e (List.mem_of_getElem? he)
  have hlt := inF_lt (n := l.length) (by omega) hk hs
  have at_ : ∀ j, j < 128 → byteAt (strF (inF l.length l.length (l.length - 1) (kidD l) (sepD l))) j = inF l.length l.length (l.length - 1) (kidD l) (sepD l) j := fun j hj => strF_at _ j hj (hlt j)
  refine ⟨strF_size _, ?_, ?_, h1, h4, fun i hi => ?_, fun i hi => ⟨?_, hs i (by omega)⟩, fun i hi => ?_⟩
  · rw [at_ 0 (by omega)]; rfl
  · rw [at_ 1 (by omega)]; rfl
  · rw [at_ _ (by omega)]
    unfold inF
    have e1 : 4 + i - 4 = i := by omega
    rw [if_neg (by omega), if_neg (by omega), if_neg (by omega), if_pos (by omega), e1, if_pos hi]
  · rw [at_ _ (by omega)]
    exact inF_key (o := 0) (by omega) (by omega)
  · have := hs i (by omega)
    exact fld_cut (hs i (by omega)) (by omega) (fun o h1 h2 => inF_key (by omega) (by omega))
theorem repI_dec (l : List (ByteArray × Nat)) : RepI (decI l.length l.length (l.length - 1) (kidD l) (sepD l)) l := by
  refine ⟨rfl, rfl, fun i e he => ?_, fun i e he => ?_⟩
  · have hi := get_lt he
    show cpF (kidD l) 0 l.length nd0.C i = _
    rw [cpF_lt _ _ _ _ _ hi]
    exact kidD_at he
  · have hi := get_lt he
    show cpF (sepD l) 0 (l.length - 1) nd0.K i = _
    rw [cpF_lt _ _ _ _ _ (by omega)]
    exact sepD_at he
/-- A node in memory stands for items of a tree. -/
def pk {h : Nat} (l : List (ByteArray × Tr (h + 1))) : List (ByteArray × Nat) := l.map (fun e => (e.1, pgT e.2))
def Rep : (h : Nat) → Node → List (ByteArray × Tr h) → Prop
  | 0, x, l => RepL x l
  | _ + 1, x, l => RepI x (pk l)
theorem Rep.n : ∀ {h : Nat} {x : Node} {l : List (ByteArray × Tr h)}, Rep h x l → x.n = l.length
  | 0, x, l, r => RepL.n r
  | h + 1, x, l, r => by have := RepI.n r; simp [pk] at this; exact this
theorem Rep.kd0 {x : Node} {l : List (ByteArray × Tr 0)} (r : Rep 0 x l) : x.k = 1 := RepL.k r
theorem Rep.kd1 {h : Nat} {x : Node} {l : List (ByteArray × Tr (h + 1))} (r : Rep (h + 1) x l) : x.k = 2 := RepI.k r
theorem ndOf_pk {h : Nat} (l : List (ByteArray × Tr (h + 1))) : ndOf (h + 1) l = .inn ((pk l).map (fun e => e.2)) ((pk l).tail.map (fun e => e.1)) := by
  show Nd.inn _ _ = _
  congr 1
  · simp [pk]
  · cases l <;> simp [pk]
/-- Items that a page can hold. -/
def Fits : (h : Nat) → List (ByteArray × Tr h) → Prop
  | 0, l => l.length ≤ 3 ∧ ∀ e ∈ l, e.1.size ≤ 16 ∧ ByteArray.size e.2 ≤ 16
  | _ + 1, l => 1 ≤ l.length ∧ l.length ≤ 4 ∧ ∀ e ∈ l, e.1.size ≤ 16 ∧ pgT e.2 < 256
theorem Fits.of {N : Nat → Option ByteArray} (hN : ∀ n b, N n = some b → n < 72) {h : Nat} {l : List (ByteArray × Tr h)} (hm : l.length ≤ mx h) (hl : h = 0 ∨ 1 ≤ l.length) (hz : ∀ e ∈ l, e.1.size ≤ 16 ∧ Sz h 2 e.2) (hs : ∀ e ∈ l, Sto N h e.2) : Fits h l := by
  cases h with
  | zero => exact ⟨hm, hz⟩
  | succ h =>
    refine ⟨by omega, hm, fun e he => ⟨(hz e he).1, ?_⟩⟩
    have := hN _ _ (hs e he).1
    omega
theorem Fits.len {h : Nat} {l : List (ByteArray × Tr h)} (f : Fits h l) : l.length ≤ 4 := by
  cases h with
  | zero => have := f.1; omega
  | succ h => exact f.2.1
theorem encode_any {h : Nat} {x : Node} {l : List (ByteArray × Tr h)} (r : Rep h x l) (f : Fits h l) (w : World) :
    Calls Tryz.prog 212 #[ndA x] w fun e w' => e = .returned (.string (page (ndOf h l))) ∧ Only (fun _ => False) w w' := by
  cases h with
  | zero =>
    have r' : RepL x l := r
    have hn := Rep.n r
    have hf := f.1
    rw [show page (ndOf 0 l) = strF (lfF x.n x.n (esOf x)) from (page_leaf r').symm]
    refine encode_leaf x r'.k (by omega) (fun i hi => ?_) w
    obtain ⟨e, he⟩ : ∃ e : ByteArray × Tr 0, l[i]? = some e := get_ex (by omega)
    have hv := r'.v i e he
    rw [hv.1, hv.2]
    exact f.2 e (List.mem_of_getElem? he)
  | succ h =>
    have r' : RepI x (pk l) := r
    have hn := Rep.n r
    have hl : 1 ≤ l.length := f.1
    have hl4 : l.length ≤ 4 := f.2.1
    have hpk : (pk l).length = l.length := by simp [pk]
    rw [ndOf_pk, ← page_inner r' (fun e => by rw [e] at hpk; simp at hpk; omega)]
    have hin : ∀ (i : Nat) (e : ByteArray × Nat), (pk l)[i]? = some e → e.1.size ≤ 16 ∧ e.2 < 256 := fun i e he => by
      have := List.mem_of_getElem? he
      obtain ⟨f', hf', rfl⟩ := List.mem_map.mp this
      exact f.2.2 f' hf'
    refine encode_inner x r'.k (by omega) (by omega) (fun i hi => ?_) (fun i hi => ?_) w
    · obtain ⟨e, he⟩ := get_ex (l := pk l) (i := i + 1) (by omega)
      rw [r'.s i e he]
      exact (hin _ e he).1
    · obtain ⟨e, he⟩ := get_ex (l := pk l) (i := i) (by omega)
      rw [r'.c i e he]
      exact (hin _ e he).2
theorem decode_any {h : Nat} {l : List (ByteArray × Tr h)} (f : Fits h l) (w : World) :
    Calls Tryz.prog 343 #[.string (page (ndOf h l))] w fun e w' => ∃ x : Node, e = .returned (.tuple #[ndA x, .bool true]) ∧ Rep h x l ∧ Only (fun _ => False) w w' := by
  cases h with
  | zero => exact (decode_leaf _ _ _ (lpage f.1 f.2) w).mono fun e w' ⟨h1, h2⟩ => ⟨_, h1, repL_dec l, h2⟩
  | succ h =>
    have hl : 1 ≤ l.length := f.1
    have hl4 : l.length ≤ 4 := f.2.1
    have hpk : (pk l).length = l.length := by simp [pk]
    have hin : ∀ e ∈ pk l, e.1.size ≤ 16 ∧ e.2 < 256 := fun e he => by
      obtain ⟨f', hf', rfl⟩ := List.mem_map.mp he
      exact f.2.2 f' hf'
    rw [ndOf_pk]
    exact (decode_inner _ _ _ _ (ipage (by omega) (by omega) (fun e he => (hin e he).2) (fun e he => (hin e he).1)) w).mono fun e w' ⟨h1, h2⟩ => ⟨_, h1, repI_dec _, h2⟩
end Go.Proofs.Qxb6500412aGreat
