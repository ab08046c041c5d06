/- The D-machine, part V: plain laws of stable sorting (no program in sight). Conditions: none. -/
namespace Go.DM.Srt
set_option linter.unusedVariables false
set_option linter.unusedSimpArgs false
section
variable {α : Type} (lt : α → α → Bool)

/-- A strict weak order. -/
structure SWO : Prop where
  irrefl : ∀ x, lt x x = false
  trans : ∀ x y z, lt x y = true → lt y z = true → lt x z = true
  ntrans : ∀ x y z, lt x y = false → lt y z = false → lt x z = false
/-- No element is ahead of one that stands before it. -/
def Sorted (l : List α) : Prop := l.Pairwise fun a b => lt b a = false
def eqv (x y : α) : Bool := !lt x y && !lt y x

/-- One more element, put behind the last that it is not ahead of; the list lies backwards. -/
def insR (x : α) : List α → List α
  | [] => [x]
  | y :: ys => if lt x y then y :: insR x ys else x :: y :: ys
def isortR (l : List α) : List α := l.foldl (fun acc x => insR lt x acc) []
/-- The stable sort. -/
def isort (l : List α) : List α := (isortR lt l).reverse

variable {lt}
theorem SWO.asymm (h : SWO lt) {x y : α} (h1 : lt x y = true) : lt y x = false := by
  cases h2 : lt y x with
  | false => rfl
  | true => have := h.trans x y x h1 h2; rw [h.irrefl] at this; cases this

theorem mem_insR (x : α) : ∀ (l : List α) (z : α), z ∈ insR lt x l ↔ z = x ∨ z ∈ l
  | [], z => by simp [insR]
  | y :: ys, z => by
    simp only [insR]
    split
    · simp only [List.mem_cons, mem_insR x ys z]
      constructor
      · rintro (h | h | h) <;> simp [h]
      · rintro (h | h | h) <;> simp [h]
    · simp
theorem insR_sorted (h : SWO lt) (x : α) : ∀ l : List α, l.Pairwise (fun a b => lt a b = false) → (insR lt x l).Pairwise fun a b => lt a b = false
  | [], _ => by simp [insR]
  | y :: ys, hs => by
    simp only [insR]
    rw [List.pairwise_cons] at hs
    split
    · rename_i hxy
      rw [List.pairwise_cons]
      refine ⟨fun z hz => ?_, insR_sorted h x ys hs.2⟩
      rcases (mem_insR x ys z).1 hz with rfl | hz
      · exact h.asymm hxy
      · exact hs.1 z hz
    · rename_i hxy
      have hxy : lt x y = false := by simpa using hxy
      rw [List.pairwise_cons]
      refine ⟨fun z hz => ?_, List.pairwise_cons.2 hs⟩
      rcases List.mem_cons.1 hz with rfl | hz
      · exact hxy
      · exact h.ntrans x y z hxy (hs.1 z hz)
theorem insR_filter (h : SWO lt) (x z : α) : ∀ l : List α, (insR lt x l).filter (eqv lt z) = (if eqv lt z x then x :: l.filter (eqv lt z) else l.filter (eqv lt z))
  | [] => by simp [insR, List.filter_cons]
  | y :: ys => by
    simp only [insR]
    split
    · rename_i hxy
      rw [List.filter_cons, insR_filter h x z ys]
      have hn : eqv lt z x = true → eqv lt z y = false := by
        intro hx
        simp only [eqv, Bool.and_eq_true, Bool.not_eq_true'] at hx
        cases hy : eqv lt z y with
        | false => rfl
        | true =>
          simp only [eqv, Bool.and_eq_true, Bool.not_eq_true'] at hy
          have := h.ntrans x z y hx.2 hy.1
          rw [hxy] at this; cases this
      by_cases hzx : eqv lt z x = true
      · simp [hzx, hn hzx, List.filter_cons]
      · simp only [Bool.not_eq_true] at hzx
        simp [hzx, List.filter_cons]
    · rw [List.filter_cons]
theorem foldl_sorted (h : SWO lt) : ∀ (l acc : List α), acc.Pairwise (fun a b => lt a b = false) → (l.foldl (fun acc x => insR lt x acc) acc).Pairwise fun a b => lt a b = false
  | [], acc, ha => ha
  | x :: l, acc, ha => foldl_sorted h l _ (insR_sorted h x acc ha)
theorem foldl_filter (h : SWO lt) (z : α) : ∀ (l acc : List α), (l.foldl (fun acc x => insR lt x acc) acc).filter (eqv lt z) = (l.filter (eqv lt z)).reverse ++ acc.filter (eqv lt z)
  | [], acc => by simp
  | x :: l, acc => by
    rw [List.foldl_cons, foldl_filter h z l, insR_filter h]
    by_cases hx : eqv lt z x = true
    · simp [hx, List.filter_cons]
    · simp only [Bool.not_eq_true] at hx
      simp [hx, List.filter_cons]
theorem isort_sorted (h : SWO lt) (l : List α) : Sorted lt (isort lt l) := by
  unfold Sorted isort
  rw [List.pairwise_reverse]
  exact foldl_sorted h l [] List.Pairwise.nil
theorem isort_filter (h : SWO lt) (z : α) (l : List α) : (isort lt l).filter (eqv lt z) = l.filter (eqv lt z) := by
  unfold isort isortR
  rw [List.filter_reverse, foldl_filter h z]
  simp
theorem eqv_self (h : SWO lt) (x : α) : eqv lt x x = true := by simp [eqv, h.irrefl]
theorem foldl_mem : ∀ (l acc : List α) (z : α), z ∈ l.foldl (fun acc x => insR lt x acc) acc ↔ z ∈ l ∨ z ∈ acc
  | [], acc, z => by simp
  | x :: l, acc, z => by
    rw [List.foldl_cons, foldl_mem l, mem_insR]
    simp only [List.mem_cons]
    constructor
    · rintro (h | h | h) <;> simp [h]
    · rintro ((h | h) | h) <;> simp [h]
@[simp] theorem mem_isort (l : List α) (z : α) : z ∈ isort lt l ↔ z ∈ l := by simp [isort, isortR, foldl_mem]
theorem insR_length (x : α) : ∀ l : List α, (insR lt x l).length = l.length + 1
  | [] => rfl
  | y :: ys => by simp only [insR]; split <;> simp [insR_length x ys]
theorem foldl_length : ∀ l acc : List α, (l.foldl (fun acc x => insR lt x acc) acc).length = l.length + acc.length
  | [], acc => by simp
  | x :: l, acc => by rw [List.foldl_cons, foldl_length l, insR_length]; simp; omega
@[simp] theorem isort_length (l : List α) : (isort lt l).length = l.length := by simp [isort, isortR, foldl_length]

/-- Two sorted lists with the same elements of each kind, in the same order, are equal. -/
theorem sorted_unique (h : SWO lt) : ∀ (l1 l2 : List α), Sorted lt l1 → Sorted lt l2 → (∀ x, l1.filter (eqv lt x) = l2.filter (eqv lt x)) → l1 = l2
  | [], [], _, _, _ => rfl
  | [], b :: t, _, _, hf => by
    have := hf b
    simp [List.filter_cons, eqv_self h] at this
  | a :: t, [], _, _, hf => by
    have := hf a
    simp [List.filter_cons, eqv_self h] at this
  | a :: t1, b :: t2, s1, s2, hf => by
    have s1' := List.pairwise_cons.1 s1
    have s2' := List.pairwise_cons.1 s2
    have hab : lt b a = false := by
      have : b ∈ a :: t1 := by
        have : b ∈ (a :: t1).filter (eqv lt b) := by rw [hf b]; simp [List.filter_cons, eqv_self h]
        exact (List.mem_filter.1 this).1
      rcases List.mem_cons.1 this with rfl | hm
      · exact h.irrefl _
      · exact s1'.1 b hm
    have hba : lt a b = false := by
      have : a ∈ b :: t2 := by
        have : a ∈ (b :: t2).filter (eqv lt a) := by rw [← hf a]; simp [List.filter_cons, eqv_self h]
        exact (List.mem_filter.1 this).1
      rcases List.mem_cons.1 this with rfl | hm
      · exact h.irrefl _
      · exact s2'.1 a hm
    have he : eqv lt a b = true := by simp [eqv, hab, hba]
    have h1 := hf a
    rw [List.filter_cons, List.filter_cons, eqv_self h, he] at h1
    simp only [if_true, List.cons.injEq] at h1
    obtain ⟨rfl, _⟩ := h1
    congr 1
    refine sorted_unique h t1 t2 s1'.2 s2'.2 fun x => ?_
    have := hf x
    rw [List.filter_cons, List.filter_cons] at this
    split at this
    · exact (List.cons.inj this).2
    · exact this
theorem isort_eq (h : SWO lt) {l l' : List α} (hs : Sorted lt l') (hf : ∀ x, l'.filter (eqv lt x) = l.filter (eqv lt x)) : isort lt l = l' :=
  sorted_unique h _ _ (isort_sorted h l) hs fun x => by rw [isort_filter h, hf]
theorem isort_of_sorted (h : SWO lt) {l : List α} (hs : Sorted lt l) : isort lt l = l := isort_eq h hs fun _ => rfl

theorem sorted_append {l1 l2 : List α} : Sorted lt (l1 ++ l2) ↔ Sorted lt l1 ∧ Sorted lt l2 ∧ ∀ a ∈ l1, ∀ b ∈ l2, lt b a = false := by
  unfold Sorted
  rw [List.pairwise_append]

/-- The step of the symmetric merge. -/
theorem merge_step (h : SWO lt) {L1 L2 R1 R2 : List α} (hL : Sorted lt (L1 ++ L2)) (hR : Sorted lt (R1 ++ R2)) (h1 : ∀ r ∈ R1, ∀ l ∈ L2, lt r l = true) (h2 : ∀ l ∈ L1, ∀ r ∈ R2, lt r l = false) :
    isort lt (L1 ++ R1) ++ isort lt (L2 ++ R2) = isort lt (L1 ++ L2 ++ (R1 ++ R2)) := by
  rw [sorted_append] at hL hR
  symm
  refine isort_eq h ?_ fun x => ?_
  · rw [sorted_append]
    refine ⟨isort_sorted h _, isort_sorted h _, fun a ha b hb => ?_⟩
    simp only [mem_isort, List.mem_append] at ha hb
    rcases ha with ha | ha <;> rcases hb with hb | hb
    · exact hL.2.2 a ha b hb
    · exact h2 a ha b hb
    · exact h.asymm (h1 a ha b hb)
    · exact hR.2.2 a ha b hb
  · simp only [List.filter_append, isort_filter h]
    have : R1.filter (eqv lt x) ++ L2.filter (eqv lt x) = L2.filter (eqv lt x) ++ R1.filter (eqv lt x) := by
      by_cases e : R1.filter (eqv lt x) = []
      · simp [e]
      · obtain ⟨r, hr⟩ := List.exists_mem_of_ne_nil _ e
        obtain ⟨hr1, hr2⟩ := List.mem_filter.1 hr
        have : L2.filter (eqv lt x) = [] := by
          rw [List.filter_eq_nil_iff]
          intro l hl hx
          simp only [eqv, Bool.and_eq_true, Bool.not_eq_true'] at hr2 hx
          have k1 := h1 r hr1 l hl
          have k2 := h.ntrans r x l hr2.2 hx.1
          rw [k1] at k2; cases k2
        simp [this]
    simp only [List.append_assoc]
    rw [← List.append_assoc (R1.filter _), this, List.append_assoc]
theorem sorted_mid (h : SWO lt) {l1 l2 : List α} {x : α} (h1 : Sorted lt l1) (h2 : Sorted lt l2) (h12 : ∀ a ∈ l1, ∀ b ∈ l2, lt b a = false) (hx1 : ∀ a ∈ l1, lt x a = false) (hx2 : ∀ b ∈ l2, lt b x = false) : Sorted lt (l1 ++ x :: l2) := by
  rw [sorted_append]
  refine ⟨h1, List.pairwise_cons.2 ⟨hx2, h2⟩, fun a ha b hb => ?_⟩
  rcases List.mem_cons.1 hb with rfl | hb
  · exact hx1 a ha
  · exact h12 a ha b hb
/-- An element ahead of a sorted list goes behind those that are less. -/
theorem ins_front (h : SWO lt) {R1 R2 : List α} {x : α} (hR : Sorted lt (R1 ++ R2)) (h1 : ∀ r ∈ R1, lt r x = true) (h2 : ∀ r ∈ R2, lt r x = false) : isort lt (x :: (R1 ++ R2)) = R1 ++ x :: R2 := by
  rw [sorted_append] at hR
  refine isort_eq h (sorted_mid h hR.1 hR.2.1 hR.2.2 (fun a ha => h.asymm (h1 a ha)) h2) fun z => ?_
  simp only [List.filter_append, List.filter_cons]
  by_cases hz : eqv lt z x = true
  · have : R1.filter (eqv lt z) = [] := by
      rw [List.filter_eq_nil_iff]
      intro r hr hx
      simp only [eqv, Bool.and_eq_true, Bool.not_eq_true'] at hz hx
      have := h.ntrans r z x hx.2 hz.1
      rw [h1 r hr] at this; cases this
    simp [hz, this]
  · simp only [Bool.not_eq_true] at hz
    simp [hz]
/-- An element behind a sorted list goes ahead of those that are greater. -/
theorem ins_back (h : SWO lt) {L1 L2 : List α} {x : α} (hL : Sorted lt (L1 ++ L2)) (h1 : ∀ l ∈ L1, lt x l = false) (h2 : ∀ l ∈ L2, lt x l = true) : isort lt (L1 ++ L2 ++ [x]) = L1 ++ x :: L2 := by
  rw [sorted_append] at hL
  refine isort_eq h (sorted_mid h hL.1 hL.2.1 hL.2.2 h1 fun b hb => h.asymm (h2 b hb)) fun z => ?_
  simp only [List.filter_append, List.filter_cons, List.filter_nil]
  by_cases hz : eqv lt z x = true
  · have : L2.filter (eqv lt z) = [] := by
      rw [List.filter_eq_nil_iff]
      intro r hr hx
      simp only [eqv, Bool.and_eq_true, Bool.not_eq_true'] at hz hx
      have := h.ntrans x z r hz.2 hx.1
      rw [h2 r hr] at this; cases this
    simp [hz, this]
  · simp only [Bool.not_eq_true] at hz
    simp [hz]
end

section
variable {α : Type}
def seg (D : List α) (i j : Nat) : List α := (D.drop i).take (j - i)
@[simp] theorem seg_length (D : List α) (i j : Nat) : (seg D i j).length = min (j - i) (D.length - i) := by simp [seg]
theorem mem_seg [Inhabited α] {D : List α} {i j : Nat} {x : α} : x ∈ seg D i j ↔ ∃ k, i ≤ k ∧ k < j ∧ k < D.length ∧ D.getD k default = x := by
  unfold seg
  rw [List.mem_iff_getElem]
  constructor
  · rintro ⟨n, hn, rfl⟩
    simp only [List.length_take, List.length_drop] at hn
    refine ⟨i + n, by omega, by omega, by omega, ?_⟩
    rw [List.getElem_take, List.getElem_drop, List.getD_eq_getElem?_getD, List.getElem?_eq_getElem (by omega)]; rfl
  · rintro ⟨k, h1, h2, h3, rfl⟩
    refine ⟨k - i, by simp only [List.length_take, List.length_drop]; omega, ?_⟩
    rw [List.getElem_take, List.getElem_drop, List.getD_eq_getElem?_getD, List.getElem?_eq_getElem h3]
    simp only [show i + (k - i) = k by omega, Option.getD_some]
theorem seg_append (D : List α) {i j k : Nat} (h1 : i ≤ j) (h2 : j ≤ k) : seg D i k = seg D i j ++ seg D j k := by
  unfold seg
  rw [show k - i = (j - i) + (k - j) by omega, List.take_add, List.drop_drop, show i + (j - i) = j by omega]
theorem take_seg (D : List α) {i j : Nat} (h : i ≤ j) : D.take i ++ seg D i j = D.take j := by
  unfold seg
  rw [show j = i + (j - i) by omega, List.take_add, show i + (j - i) - i = j - i by omega]
theorem seg_drop (D : List α) {i j : Nat} (h : i ≤ j) : seg D i j ++ D.drop j = D.drop i := by
  unfold seg
  conv => rhs; rw [← List.take_append_drop (j - i) (D.drop i)]
  rw [List.drop_drop, show i + (j - i) = j by omega]
theorem seg_app (A X B : List α) {i j : Nat} (hi : A.length = i) (hj : i + X.length = j) : seg (A ++ (X ++ B)) i j = X := by
  subst hi
  unfold seg
  rw [List.drop_left, show j - A.length = X.length by omega, List.take_left]
@[simp] theorem seg_self (D : List α) (i : Nat) : seg D i i = [] := by simp [seg]

/-- The stable sort of a part. -/
def sortAt (lt : α → α → Bool) (D : List α) (a b : Nat) : List α := D.take a ++ (isort lt (seg D a b) ++ D.drop b)
/-- Two neighbouring parts change their places. -/
def rotAt (D : List α) (a m b : Nat) : List α := D.take a ++ (seg D m b ++ (seg D a m ++ D.drop b))
/-- Two parts of one length change their places. -/
def swapAt (D : List α) (a b n : Nat) : List α := D.take a ++ (seg D b (b + n) ++ (seg D (a + n) b ++ (seg D a (a + n) ++ D.drop (b + n))))

theorem split4 (D : List α) {a m b : Nat} (h1 : a ≤ m) (h2 : m ≤ b) : D = D.take a ++ (seg D a m ++ (seg D m b ++ D.drop b)) := by
  conv => lhs; rw [← List.take_append_drop a D]
  rw [seg_drop D h2, seg_drop D h1]
theorem take_app (A B : List α) {i : Nat} (hi : A.length = i) : (A ++ B).take i = A := by subst hi; simp
theorem drop_app (A X B : List α) {i : Nat} (hi : A.length + X.length = i) : (A ++ (X ++ B)).drop i = B := by
  subst hi; rw [← List.append_assoc, List.drop_left' (by simp)]
theorem rotAt_app (A P Q B : List α) {a m b : Nat} (ha : A.length = a) (hm : a + P.length = m) (hb : m + Q.length = b) : rotAt (A ++ (P ++ (Q ++ B))) a m b = A ++ (Q ++ (P ++ B)) := by
  unfold rotAt
  rw [take_app _ _ ha, seg_app A P _ ha hm, ← List.append_assoc A P, seg_app (A ++ P) Q B (by simp; omega) (by omega), drop_app (A ++ P) Q B (by simp; omega)]
theorem swapAt_app (A X M Y B : List α) {a b n : Nat} (ha : A.length = a) (hx : X.length = n) (hm : a + n + M.length = b) (hy : Y.length = n) : swapAt (A ++ (X ++ (M ++ (Y ++ B)))) a b n = A ++ (Y ++ (M ++ (X ++ B))) := by
  have s1 : seg (A ++ (X ++ (M ++ (Y ++ B)))) a (a + n) = X := seg_app A X _ ha (by omega)
  have s2 : seg (A ++ (X ++ (M ++ (Y ++ B)))) (a + n) b = M := by
    rw [show A ++ (X ++ (M ++ (Y ++ B))) = (A ++ X) ++ (M ++ (Y ++ B)) by simp]
    exact seg_app _ M _ (by simp; omega) (by omega)
  have s3 : seg (A ++ (X ++ (M ++ (Y ++ B)))) b (b + n) = Y := by
    rw [show A ++ (X ++ (M ++ (Y ++ B))) = (A ++ X ++ M) ++ (Y ++ B) by simp]
    exact seg_app _ Y _ (by simp; omega) (by omega)
  have s4 : (A ++ (X ++ (M ++ (Y ++ B)))).drop (b + n) = B := by
    rw [show A ++ (X ++ (M ++ (Y ++ B))) = (A ++ X ++ M) ++ (Y ++ B) by simp]
    exact drop_app _ Y _ (by simp; omega)
  unfold swapAt
  rw [take_app _ _ ha, s1, s2, s3, s4]
theorem sortAt_app (lt : α → α → Bool) (A X B : List α) {a b : Nat} (ha : A.length = a) (hb : a + X.length = b) : sortAt lt (A ++ (X ++ B)) a b = A ++ (isort lt X ++ B) := by
  unfold sortAt
  rw [take_app _ _ ha, seg_app A X B ha hb, drop_app A X B (by omega)]
@[simp] theorem sortAt_length (lt : α → α → Bool) (D : List α) {a b : Nat} (h1 : a ≤ b) (h2 : b ≤ D.length) : (sortAt lt D a b).length = D.length := by
  simp [sortAt]; omega
theorem mem_sortAt {lt : α → α → Bool} {D : List α} {a b : Nat} {x : α} (h1 : a ≤ b) : x ∈ sortAt lt D a b ↔ x ∈ D := by
  unfold sortAt
  rw [List.mem_append, List.mem_append, mem_isort]
  conv => rhs; rw [← List.take_append_drop a D, ← seg_drop D h1]
  rw [List.mem_append, List.mem_append]
theorem mem_rotAt {D : List α} {a m b : Nat} {x : α} (h1 : a ≤ m) (h2 : m ≤ b) : x ∈ rotAt D a m b ↔ x ∈ D := by
  unfold rotAt
  conv => rhs; rw [split4 D h1 h2]
  simp only [List.mem_append]
  constructor
  · rintro (h | h | h | h) <;> simp [h]
  · rintro (h | h | h | h) <;> simp [h]
theorem rotAt_length {D : List α} {a m b : Nat} (h1 : a ≤ m) (h2 : m ≤ b) (h3 : b ≤ D.length) : (rotAt D a m b).length = D.length := by
  simp [rotAt]; omega

/-- The symmetric merge, its split found. -/
theorem symMerge_law {lt : α → α → Bool} (h : SWO lt) {D : List α} {a s m e b mid : Nat} (h1 : a ≤ s) (h2 : s ≤ m) (h3 : m ≤ e) (h4 : e ≤ b) (h5 : b ≤ D.length) (hmid : s + e = mid + m)
    (hL : Sorted lt (seg D a m)) (hR : Sorted lt (seg D m b)) (k1 : ∀ r ∈ seg D m e, ∀ l ∈ seg D s m, lt r l = true) (k2 : ∀ l ∈ seg D a s, ∀ r ∈ seg D e b, lt r l = false) :
    let D1 := rotAt D s m e
    let D2 := sortAt lt D1 a mid
    (Sorted lt (seg D1 a s) ∧ Sorted lt (seg D1 s mid)) ∧ (Sorted lt (seg D2 mid e) ∧ Sorted lt (seg D2 e b)) ∧ sortAt lt D2 mid b = sortAt lt D a b ∧ (s = a → D2 = D1) ∧ (mid ≤ s → D2 = D1) ∧ (e ≤ mid → sortAt lt D2 mid b = D2) ∧ (b ≤ e → sortAt lt D2 mid b = D2) := by
  have lA : (D.take a).length = a := by simp; omega
  have lL1 : (seg D a s).length = s - a := by simp; omega
  have lL2 : (seg D s m).length = m - s := by simp; omega
  have lR1 : (seg D m e).length = e - m := by simp; omega
  have lR2 : (seg D e b).length = b - e := by simp; omega
  have hD : D = D.take a ++ (seg D a s ++ (seg D s m ++ (seg D m e ++ (seg D e b ++ D.drop b)))) := by
    rw [seg_drop D h4, seg_drop D h3, seg_drop D h2, seg_drop D h1, List.take_append_drop]
  rw [seg_append D h1 h2] at hL
  rw [seg_append D h3 h4] at hR
  generalize D.take a = A at lA hD
  generalize seg D a s = L1 at *
  generalize seg D s m = L2 at *
  generalize seg D m e = R1 at *
  generalize seg D e b = R2 at *
  generalize D.drop b = B at *
  subst hD
  have e1 : rotAt (A ++ (L1 ++ (L2 ++ (R1 ++ (R2 ++ B))))) s m e = A ++ (L1 ++ (R1 ++ (L2 ++ (R2 ++ B)))) := by
    rw [← List.append_assoc A L1, rotAt_app (A ++ L1) L2 R1 _ (by simp; omega) (by omega) (by omega), List.append_assoc]
  have e2 : sortAt lt (A ++ (L1 ++ (R1 ++ (L2 ++ (R2 ++ B))))) a mid = A ++ (isort lt (L1 ++ R1) ++ (L2 ++ (R2 ++ B))) := by
    rw [← List.append_assoc L1 R1, sortAt_app lt A (L1 ++ R1) _ lA (by simp; omega)]
  have e3 : sortAt lt (A ++ (isort lt (L1 ++ R1) ++ (L2 ++ (R2 ++ B)))) mid b = A ++ (isort lt (L1 ++ R1) ++ (isort lt (L2 ++ R2) ++ B)) := by
    rw [show A ++ (isort lt (L1 ++ R1) ++ (L2 ++ (R2 ++ B))) = (A ++ isort lt (L1 ++ R1)) ++ ((L2 ++ R2) ++ B) by simp, sortAt_app lt (A ++ isort lt (L1 ++ R1)) (L2 ++ R2) _ (by simp; omega) (by simp; omega), List.append_assoc]
  have e4 : sortAt lt (A ++ (L1 ++ (L2 ++ (R1 ++ (R2 ++ B))))) a b = A ++ (isort lt (L1 ++ L2 ++ (R1 ++ R2)) ++ B) := by
    have := sortAt_app lt A (L1 ++ L2 ++ (R1 ++ R2)) B lA (b := b) (by simp; omega)
    simp only [List.append_assoc] at this ⊢
    exact this
  simp only [e1, e2, e3]
  have hL' := sorted_append.1 hL
  have hR' := sorted_append.1 hR
  refine ⟨⟨?_, ?_⟩, ⟨?_, ?_⟩, ?_, ?_, ?_, ?_, ?_⟩
  · rw [seg_app A L1 _ lA (by omega)]; exact hL'.1
  · rw [← List.append_assoc A L1, seg_app (A ++ L1) R1 _ (by simp; omega) (by omega)]; exact hR'.1
  · rw [← List.append_assoc A, seg_app (A ++ isort lt (L1 ++ R1)) L2 _ (by simp; omega) (by omega)]; exact hL'.2.1
  · rw [← List.append_assoc A, ← List.append_assoc (A ++ isort lt (L1 ++ R1)), seg_app (A ++ isort lt (L1 ++ R1) ++ L2) R2 _ (by simp; omega) (by omega)]; exact hR'.2.1
  · rw [e4, ← merge_step h hL hR k1 k2]; simp only [List.append_assoc]
  · intro hs
    have : L1 = [] := List.eq_nil_of_length_eq_zero (by omega)
    subst this
    rw [List.nil_append, isort_of_sorted h hR'.1]; simp
  · intro hs
    have : R1 = [] := List.eq_nil_of_length_eq_zero (by omega)
    subst this
    rw [List.append_nil, isort_of_sorted h hL'.1]; simp
  · intro hs
    have : L2 = [] := List.eq_nil_of_length_eq_zero (by omega)
    subst this
    rw [List.nil_append, isort_of_sorted h hR'.2.1]; simp
  · intro hs
    have : R2 = [] := List.eq_nil_of_length_eq_zero (by omega)
    subst this
    rw [List.append_nil, isort_of_sorted h hL'.2.1]; simp
end
end Go.DM.Srt
/- The D-machine, part W: plain laws of the stable sort by blocks. Conditions: none. -/
namespace Go.DM.Srt
set_option linter.unusedVariables false
set_option linter.unusedSimpArgs false
section
variable {α : Type} {lt : α → α → Bool}
theorem isort_congr (h : SWO lt) {l l' : List α} (hf : ∀ x, l.filter (eqv lt x) = l'.filter (eqv lt x)) : isort lt l = isort lt l' :=
  isort_eq h (isort_sorted h l') fun x => by rw [isort_filter h, hf]
theorem isort_sortAt (h : SWO lt) {D : List α} {a b : Nat} (hab : a ≤ b) : isort lt (sortAt lt D a b) = isort lt D := by
  refine isort_congr h fun x => ?_
  unfold sortAt
  conv => rhs; rw [← List.take_append_drop a D, ← seg_drop D hab]
  simp only [List.filter_append, isort_filter h]
theorem seg_left (A B : List α) {i j : Nat} (h : j ≤ A.length) : seg (A ++ B) i j = seg A i j := by
  unfold seg
  by_cases hi : i ≤ A.length
  · rw [List.drop_append_of_le_length hi, List.take_append_of_le_length (by simp; omega)]
  · rw [show j - i = 0 by omega]; simp
theorem seg_right (A B : List α) {i j : Nat} (h : A.length ≤ i) : seg (A ++ B) i j = seg B (i - A.length) (j - A.length) := by
  unfold seg
  rw [List.drop_append, List.drop_eq_nil_of_le h, List.nil_append, show j - A.length - (i - A.length) = j - i by omega]
theorem seg_sortAt_other {D : List α} {a b i j : Nat} (hab : a ≤ b) (hb : b ≤ D.length) (h : j ≤ a ∨ b ≤ i) : seg (sortAt lt D a b) i j = seg D i j := by
  have hD : D = D.take a ++ (seg D a b ++ D.drop b) := by rw [seg_drop D hab, List.take_append_drop]
  have lA : (D.take a).length = a := by simp; omega
  have lS : (seg D a b).length = b - a := by simp; omega
  unfold sortAt
  conv => rhs; rw [hD]
  rcases h with h | h
  · rw [seg_left _ _ (by omega), seg_left _ _ (by omega)]
  · rw [← List.append_assoc, ← List.append_assoc, seg_right _ _ (by simp; omega), seg_right _ _ (by simp; omega)]
    congr 1 <;> simp
theorem seg_sortAt_self {D : List α} {a b : Nat} (hab : a ≤ b) (hb : b ≤ D.length) : seg (sortAt lt D a b) a b = isort lt (seg D a b) := by
  unfold sortAt
  exact seg_app _ _ _ (by simp; omega) (by simp; omega)
theorem seg_end {D : List α} {i j : Nat} (h : D.length ≤ j) : seg D i j = D.drop i := by
  unfold seg
  exact List.take_of_length_le (by simp; omega)
/-- Each block of this length is sorted, from this one on. -/
def Blocks (lt : α → α → Bool) (D : List α) (bs : Nat) (p : Nat → Prop) : Prop := ∀ j, p j → Sorted lt (seg D (j * bs) (j * bs + bs))
theorem mul_lt_of {j k bs : Nat} (h : j < k) : j * bs + bs ≤ k * bs := by
  have := Nat.mul_le_mul_right bs (show j + 1 ≤ k by omega)
  rw [Nat.add_mul] at this; omega
end
end Go.DM.Srt
