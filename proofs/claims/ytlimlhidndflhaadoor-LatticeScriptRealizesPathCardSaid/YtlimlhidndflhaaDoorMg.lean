/- The D-machine, part V: plain laws of stable sorting (no program in sight). Conditions: none. -/
namespace Go.DM.Srt
set_option linter.unusedVariables false
set_option linter.unusedSimpArgs false
section
variable {α : Type} (lt : α → α → Bool)

/-- A strict weak order. -/
structure SWO : Prop where
  irrefl : ∀ x, lt x x = false
  trans : ∀ x y z, lt x y = true → lt y z = true → lt x z = true
  ntrans : ∀ x y z, lt x y = false → lt y z = false → lt x z = false
/-- No element is ahead of one that stands before it. -/
def Sorted (l : List α) : Prop := l.Pairwise fun a b => lt b a = false
def eqv (x y : α) : Bool := !lt x y && !lt y x

/-- One more element, put behind the last that it is not ahead of; the list lies backwards. -/
def insR (x : α) : List α → List α
  | [] => [x]
  | y :: ys => if lt x y then y :: insR x ys else x :: y :: ys
def isortR (l : List α) : List α := l.foldl (fun acc x => insR lt x acc) []
/-- The stable sort. -/
def isort (l : List α) : List α := (isortR lt l).reverse

variable {lt}
theorem SWO.asymm (h : SWO lt) {x y : α} (h1 : lt x y = true) : lt y x = false := by
  cases h2 : lt y x with
  | false => rfl
  | true => have := h.trans x y x h1 h2; rw [h.irrefl] at this; cases this

theorem mem_insR (x : α) : ∀ (l : List α) (z : α), z ∈ insR lt x l ↔ z = x ∨ z ∈ l
  | [], z => by simp [insR]
  | y :: ys, z => by
    simp only [insR]
    split
    · simp only [List.mem_cons, mem_insR x ys z]
      constructor
      · rintro (h | h | h) <;> simp [h]
      · rintro (h | h | h) <;> simp [h]
    · simp
theorem insR_sorted (h : SWO lt) (x : α) : ∀ l : List α, l.Pairwise (fun a b => lt a b = false) → (insR lt x l).Pairwise fun a b => lt a b = false
  | [], _ => by simp [insR]
  | y :: ys, hs => by
    simp only [insR]
    rw [List.pairwise_cons] at hs
    split
    · rename_i hxy
      rw [List.pairwise_cons]
      refine ⟨fun z hz => ?_, insR_sorted h x ys hs.2⟩
      rcases (mem_insR x ys z).1 hz with rfl | hz
      · exact h.asymm hxy
      · exact hs.1 z hz
    · rename_i hxy
      have hxy : lt x y = false := by simpa using hxy
      rw [List.pairwise_cons]
      refine ⟨fun z hz => ?_, List.pairwise_cons.2 hs⟩
      rcases List.mem_cons.1 hz with rfl | hz
      · exact hxy
      · exact h.ntrans x y z hxy (hs.1 z hz)
theorem insR_filter (h : SWO lt) (x z : α) : ∀ l : List α, (insR lt x l).filter (eqv lt z) = (if eqv lt z x then x :: l.filter (eqv lt z) else l.filter (eqv lt z))
  | [] => by simp [insR, List.filter_cons]
  | y :: ys => by
    simp only [insR]
    split
    · rename_i hxy
      rw [List.filter_cons, insR_filter h x z ys]
      have hn : eqv lt z x = true → eqv lt z y = false := by
        intro hx
        simp only [eqv, Bool.and_eq_true, Bool.not_eq_true'] at hx
        cases hy : eqv lt z y with
        | false => rfl
        | true =>
          simp only [eqv, Bool.and_eq_true, Bool.not_eq_true'] at hy
          have := h.ntrans x z y hx.2 hy.1
          rw [hxy] at this; cases this
      by_cases hzx : eqv lt z x = true
      · simp [hzx, hn hzx, List.filter_cons]
      · simp only [Bool.not_eq_true] at hzx
        simp [hzx, List.filter_cons]
    · rw [List.filter_cons]
theorem foldl_sorted (h : SWO lt) : ∀ (l acc : List α), acc.Pairwise (fun a b => lt a b = false) → (l.foldl (fun acc x => insR lt x acc) acc).Pairwise fun a b => lt a b = false
  | [], acc, ha => ha
  | x :: l, acc, ha => foldl_sorted h l _ (insR_sorted h x acc ha)
theorem foldl_filter (h : SWO lt) (z : α) : ∀ (l acc : List α), (l.foldl (fun acc x => insR lt x acc) acc).filter (eqv lt z) = (l.filter (eqv lt z)).reverse ++ acc.filter (eqv lt z)
  | [], acc => by simp
  | x :: l, acc => by
    rw [List.foldl_cons, foldl_filter h z l, insR_filter h]
    by_cases hx : eqv lt z x = true
    · simp [hx, List.filter_cons]
    · simp only [Bool.not_eq_true] at hx
      simp [hx, List.filter_cons]
theorem isort_sorted (h : SWO lt) (l : List α) : Sorted lt (isort lt l) := by
  unfold Sorted isort
  rw [List.pairwise_reverse]
  exact foldl_sorted h l [] List.Pairwise.nil
theorem isort_filter (h : SWO lt) (z : α) (l : List α) : (isort lt l).filter (eqv lt z) = l.filter (eqv lt z) := by
  unfold isort isortR
  rw [List.filter_reverse, foldl_filter h z]
  simp
theorem eqv_self (h : SWO lt) (x : α) : eqv lt x x = true := by simp [eqv, h.irrefl]
theorem foldl_mem : ∀ (l acc : List α) (z : α), z ∈ l.foldl (fun acc x => insR lt x acc) acc ↔ z ∈ l ∨ z ∈ acc
  | [], acc, z => by simp
  | x :: l, acc, z => by
    rw [List.foldl_cons, foldl_mem l, mem_insR]
    simp only [List.mem_cons]
    constructor
    · rintro (h | h | h) <;> simp [h]
    · rintro ((h | h) | h) <;> simp [h]
@[simp] theorem mem_isort (l : List α) (z : α) : z ∈ isort lt l ↔ z ∈ l := by simp [isort, isortR, foldl_mem]
theorem insR_length (x : α) : ∀ l : List α, (insR lt x l).length = l.length + 1
  | [] => rfl
  | y :: ys => by simp only [insR]; split <;> simp [insR_length x ys]
theorem foldl_length : ∀ l acc : List α, (l.foldl (fun acc x => insR lt x acc) acc).length = l.length + acc.length
  | [], acc => by simp
  | x :: l, acc => by rw [List.foldl_cons, foldl_length l, insR_length]; simp; omega
@[simp] theorem isort_length (l : List α) : (isort lt l).length = l.length := by simp [isort, isortR, foldl_length]

/-- Two sorted lists with the same elements of each kind, in the same order, are equal. -/
theorem sorted_unique (h : SWO lt) : ∀ (l1 l2 : List α), Sorted lt l1 → Sorted lt l2 → (∀ x, l1.filter (eqv lt x) = l2.filter (eqv lt x)) → l1 = l2
  | [], [], _, _, _ => rfl
  | [], b :: t, _, _, hf => by
    have := hf b
    simp [List.filter_cons, eqv_self h] at this
  | a :: t, [], _, _, hf => by
    have := hf a
    simp [List.filter_cons, eqv_self h] at this
  | a :: t1, b :: t2, s1, s2, hf => by
    have s1' := List.pairwise_cons.1 s1
    have s2' := List.pairwise_cons.1 s2
    have hab : lt b a = false := by
      have : b ∈ a :: t1 := by
        have : b ∈ (a :: t1).filter (eqv lt b) := by rw [hf b]; simp [List.filter_cons, eqv_self h]
        exact (List.mem_filter.1 this).1
      rcases List.mem_cons.1 this with rfl | hm
      · exact h.irrefl _
      · exact s1'.1 b hm
    have hba : lt a b = false := by
      have : a ∈ b :: t2 := by
        have : a ∈ (b :: t2).filter (eqv lt a) := by rw [← hf a]; simp [List.filter_cons, eqv_self h]
        exact (List.mem_filter.1 this).1
      rcases List.mem_cons.1 this with rfl | hm
      · exact h.irrefl _
      · exact s2'.1 a hm
    have he : eqv lt a b = true := by simp [eqv, hab, hba]
    have h1 := hf a
    rw [List.filter_cons, List.filter_cons, eqv_self h, he] at h1
    simp only [if_true, List.cons.injEq] at h1
    obtain ⟨rfl, _⟩ := h1
    congr 1
    refine sorted_unique h t1 t2 s1'.2 s2'.2 fun x => ?_
    have := hf x
    rw [List.filter_cons, List.filter_cons] at this
    split at this
    · exact (List.cons.inj this).2
    · exact this
theorem isort_eq (h : SWO lt) {l l' : List α} (hs : Sorted lt l') (hf : ∀ x, l'.filter (eqv lt x) = l.filter (eqv lt x)) : isort lt l = l' :=
  sorted_unique h _ _ (isort_sorted h l) hs fun x => by rw [isort_filter h, hf]
end

section
variable {α : Type}
def seg (D : List α) (i j : Nat) : List α := (D.drop i).take (j - i)
@[simp] theorem seg_length (D : List α) (i j : Nat) : (seg D i j).length = min (j - i) (D.length - i) := by simp [seg]
@[simp] theorem seg_self (D : List α) (i : Nat) : seg D i i = [] := by simp [seg]

/-- The stable sort of a part. -/
def sortAt (lt : α → α → Bool) (D : List α) (a b : Nat) : List α := D.take a ++ (isort lt (seg D a b) ++ D.drop b)
@[simp] theorem sortAt_length (lt : α → α → Bool) (D : List α) {a b : Nat} (h1 : a ≤ b) (h2 : b ≤ D.length) : (sortAt lt D a b).length = D.length := by
  simp [sortAt]; omega
end
end Go.DM.Srt
/- The D-machine, part W: plain laws of the stable sort by blocks. Conditions: none. -/
namespace Go.DM.Srt
set_option linter.unusedVariables false
set_option linter.unusedSimpArgs false
section
variable {α : Type} {lt : α → α → Bool}
end
end Go.DM.Srt
