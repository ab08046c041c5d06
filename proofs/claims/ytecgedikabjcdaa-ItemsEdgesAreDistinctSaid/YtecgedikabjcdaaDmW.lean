/- The D-machine, part W: plain laws of the stable sort by blocks. Conditions: none. -/
import Derived.Test.YtecgedikabjcdaaDmV
namespace Go.DM.Srt
set_option linter.unusedVariables false
set_option linter.unusedSimpArgs false
section
variable {α : Type} {lt : α → α → Bool}
theorem isort_congr (h : SWO lt) {l l' : List α} (hf : ∀ x, l.filter (eqv lt x) = l'.filter (eqv lt x)) : isort lt l = isort lt l' :=
  isort_eq h (isort_sorted h l') fun x => by rw [isort_filter h, hf]
theorem isort_sortAt (h : SWO lt) {D : List α} {a b : Nat} (hab : a ≤ b) : isort lt (sortAt lt D a b) = isort lt D := by
  refine isort_congr h fun x => ?_
  unfold sortAt
  conv => rhs; rw [← List.take_append_drop a D, ← seg_drop D hab]
  simp only [List.filter_append, isort_filter h]
theorem seg_left (A B : List α) {i j : Nat} (h : j ≤ A.length) : seg (A ++ B) i j = seg A i j := by
  unfold seg
  by_cases hi : i ≤ A.length
  · rw [List.drop_append_of_le_length hi, List.take_append_of_le_length (by simp; omega)]
  · rw [show j - i = 0 by omega]; simp
theorem seg_right (A B : List α) {i j : Nat} (h : A.length ≤ i) : seg (A ++ B) i j = seg B (i - A.length) (j - A.length) := by
  unfold seg
  rw [List.drop_append, List.drop_eq_nil_of_le h, List.nil_append, show j - A.length - (i - A.length) = j - i by omega]
theorem seg_sortAt_other {D : List α} {a b i j : Nat} (hab : a ≤ b) (hb : b ≤ D.length) (h : j ≤ a ∨ b ≤ i) : seg (sortAt lt D a b) i j = seg D i j := by
  have hD : D = D.take a ++ (seg D a b ++ D.drop b) := by rw [seg_drop D hab, List.take_append_drop]
  have lA : (D.take a).length = a := by simp; omega
  have lS : (seg D a b).length = b - a := by simp; omega
  unfold sortAt
  conv => rhs; rw [hD]
  rcases h with h | h
  · rw [seg_left _ _ (by omega), seg_left _ _ (by omega)]
  · rw [← List.append_assoc, ← List.append_assoc, seg_right _ _ (by simp; omega), seg_right _ _ (by simp; omega)]
    congr 1 <;> simp
theorem seg_sortAt_self {D : List α} {a b : Nat} (hab : a ≤ b) (hb : b ≤ D.length) : seg (sortAt lt D a b) a b = isort lt (seg D a b) := by
  unfold sortAt
  exact seg_app _ _ _ (by simp; omega) (by simp; omega)
theorem seg_end {D : List α} {i j : Nat} (h : D.length ≤ j) : seg D i j = D.drop i := by
  unfold seg
  exact List.take_of_length_le (by simp; omega)
/-- Each block of this length is sorted, from this one on. -/
def Blocks (lt : α → α → Bool) (D : List α) (bs : Nat) (p : Nat → Prop) : Prop := ∀ j, p j → Sorted lt (seg D (j * bs) (j * bs + bs))
theorem mul_lt_of {j k bs : Nat} (h : j < k) : j * bs + bs ≤ k * bs := by
  have := Nat.mul_le_mul_right bs (show j + 1 ≤ k by omega)
  rw [Nat.add_mul] at this; omega
end
end Go.DM.Srt
