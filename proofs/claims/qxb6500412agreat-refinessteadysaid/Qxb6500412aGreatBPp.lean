/-
  OWN WORK. THE B-TREE: put, what its walk leans on.
-/
import Derived.Test.Qxb6500412aGreatBFind
namespace Go.Proofs.Qxb6500412aGreat
open Go.RowKit Go.PlainAid
set_option linter.unusedSimpArgs false
set_option linter.unusedVariables false

theorem pk_len {h : Nat} (l : List (ByteArray × Tr (h + 1))) : (pk l).length = l.length := by simp [pk]
theorem pk_take {h : Nat} (l : List (ByteArray × Tr (h + 1))) (n : Nat) : pk (l.take n) = (pk l).take n := by simp [pk, List.map_take]
theorem pk_drop {h : Nat} (l : List (ByteArray × Tr (h + 1))) (n : Nat) : pk (l.drop n) = (pk l).drop n := by simp [pk, List.map_drop]
theorem pk_app {h : Nat} (a b : List (ByteArray × Tr (h + 1))) : pk (a ++ b) = pk a ++ pk b := by simp [pk]
theorem pk_cons {h : Nat} (e : ByteArray × Tr (h + 1)) (b : List (ByteArray × Tr (h + 1))) : pk (e :: b) = (e.1, pgT e.2) :: pk b := by simp [pk]
theorem Rep.split {h : Nat} {x a b : Node} {l : List (ByteArray × Tr h)} {up : ByteArray} (r : Rep h x l) (hl : l.length = mx h + 1) (hs : Split x a b up) : Rep h a (l.take 2) ∧ Rep h b (l.drop 2) ∧ ∀ e, l[2]? = some e → up = e.1 := by
  cases h with
  | zero => exact RepL.split r hl hs
  | succ h =>
    obtain ⟨h1, h2, h3⟩ := RepI.split (x := x) (l := pk l) r (by rw [pk_len]; exact hl) hs
    refine ⟨?_, ?_, fun e he => h3 (e.1, pgT e.2) (pk_get he)⟩
    · show RepI a (pk (l.take 2)); rw [pk_take]; exact h1
    · show RepI b (pk (l.drop 2)); rw [pk_drop]; exact h2
section
variable {N N1 : Nat → Option ByteArray} {h : Nat} {s : ByteArray} {hi : Option ByteArray} {lo : Nat} {k v : ByteArray} {t : Tr (h + 1)} {l : List (ByteArray × Tr h)} {fresh : List Nat}
theorem Over.at_ (o : Over N N1 h s hi lo k v t l fresh) : N1 (pgT t) = N (pgT t) := o.fr.out _ (fun hm => o.nd (by simp [hm])) (fun hm => o.nd (by simp [hm]))
theorem Over.cov (o : Over N N1 h s hi lo k v t l fresh) {us : List Nat} (hc : Cov N us) (hst : Sto N (h + 1) t) : Cov N1 (fresh ++ us) := by
  intro n b hb
  by_cases h1 : n ∈ fresh
  · simp [h1]
  · by_cases h2 : n ∈ pgsL h (itT t)
    · obtain ⟨b', hb'⟩ := hst.some n (by rw [pgs_succ]; simp [h2])
      have := hc n b' hb'
      simp [this]
    · rw [o.fr.out n h2 h1] at hb
      have := hc n b hb
      simp [this]
end
theorem Fits.take {view : List ByteArray} {h : Nat} {l : List (ByteArray × Tr h)} (hl : l.length = mx h + 1) (hz : ∀ e ∈ l, e.1.size ≤ 16 ∧ Sz h 2 e.2) (hs : ∀ e ∈ l, Sto (NV view) h e.2) : Fits h (l.take 2) ∧ Fits h (l.drop 2) := by
  have m1 := mx_lo h
  have m2 := mx_hi h
  refine ⟨Fits.of (N := NV view) NV_lt (by rw [List.length_take]; omega) (.inr (by rw [List.length_take]; omega)) (fun e he => hz e (List.mem_of_mem_take he)) (fun e he => hs e (List.mem_of_mem_take he)), Fits.of (N := NV view) NV_lt (by rw [List.length_drop]; omega) (.inr (by rw [List.length_drop]; omega)) (fun e he => hz e (List.mem_of_mem_drop he)) (fun e he => hs e (List.mem_of_mem_drop he))⟩
/-- What put answers, and what it leaves. -/
def PutPost (q : Gnd) (w : World) (view : List ByteArray) (h : Nat) (s : ByteArray) (hi : Option ByteArray) (lo : Nat) (k v : ByteArray) (t : Tr (h + 1)) (e : Ending) (w' : World) : Prop :=
  ∃ view' fresh, FA q w' true view' ∧ Only q.S w w' ∧
    ((∃ t', e = .returned (.tuple #[.string bE, .int .i64 0, .int .i64 0]) ∧ PutA (NV view) (NV view') h s hi lo k v t t' fresh) ∨
     (∃ t1 t2 up, e = .returned (.tuple #[.string up, .int .i64 (pgT t2), .int .i64 0]) ∧ PutB (NV view) (NV view') h s hi k v t t1 t2 up fresh))
end Go.Proofs.Qxb6500412aGreat
