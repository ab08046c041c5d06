/- The edit distance of an input and a label is the least cost of an accepting path (plain law). Conditions: none. -/
import Derived.Test.YtlimlhidndflhaaBb
import Derived.Test.YtlimlhidndflhaaJ0e
namespace Go.Proofs
open Go.DM Go.DM.Srt
set_option linter.unusedSimpArgs false
set_option linter.unusedVariables false

abbrev INF : Int := 1099511627776
def yAt (y : List Int) (j : Nat) : Int := y.getD j default
def rdP (x : Input) (y : List Int) (i j : Nat) : Prop := i < x.columns.length ∧ j < y.length ∧ 0 ≤ readAt x i (yAt y j).toNat
def swP (x : Input) (y : List Int) (i j : Nat) : Prop := swapOk x i = true ∧ j + 1 < y.length ∧ yAt y j = (x.columns.getD (i + 1) default).kind ∧ yAt y (j + 1) = (x.columns.getD i default).kind
instance (x : Input) (y : List Int) (i j : Nat) : Decidable (rdP x y i j) := by unfold rdP; infer_instance
instance (x : Input) (y : List Int) (i j : Nat) : Decidable (swP x y i j) := by unfold swP; infer_instance
theorem swapOk_lt {x : Input} {i : Nat} (h : swapOk x i = true) : i + 1 < x.columns.length := by
  unfold swapOk at h
  rw [decide_eq_true_eq] at h
  exact h.1
def delAt (x : Input) (i : Nat) : Int := (x.columns.getD i default).delete
def insAt (x : Input) (t : Nat) : Int := x.insert.getD t default
/-- The least cost of emitting y from the j-th terminal on from the tokens from the i-th on. -/
def ed (x : Input) (y : List Int) (i j : Nat) : Int :=
  let b0 := if i = x.columns.length ∧ j = y.length then 0 else INF
  let b1 := if h : rdP x y i j then min b0 (min (readAt x i (yAt y j).toNat + ed x y (i + 1) (j + 1)) INF) else b0
  let b2 := if h : i < x.columns.length then min b1 (min (delAt x i + ed x y (i + 1) j) INF) else b1
  let b3 := if h : j < y.length then min b2 (min (insAt x (yAt y j).toNat + ed x y i (j + 1)) INF) else b2
  if h : swP x y i j then min b3 (min (x.swap + ed x y (i + 2) (j + 2)) INF) else b3
termination_by (x.columns.length - i) + (y.length - j)
decreasing_by
  · have := h.1; omega
  · omega
  · omega
  · have := swapOk_lt h.1; have := h.2.1; omega
/-- The value of one step; INF if it is not possible. -/
def stV (x : Input) (y : List Int) (i j : Nat) : Nat → Int
  | 1 => if rdP x y i j then min (readAt x i (yAt y j).toNat + ed x y (i + 1) (j + 1)) INF else INF
  | 2 => if i < x.columns.length then min (delAt x i + ed x y (i + 1) j) INF else INF
  | 3 => if j < y.length then min (insAt x (yAt y j).toNat + ed x y i (j + 1)) INF else INF
  | 4 => if swP x y i j then min (x.swap + ed x y (i + 2) (j + 2)) INF else INF
  | _ => INF
def bst (x : Input) (y : List Int) (i j : Nat) : Nat → Int
  | 0 => if i = x.columns.length ∧ j = y.length then 0 else INF
  | k + 1 => min (bst x y i j k) (stV x y i j (k + 1))
theorem stV1 (x : Input) (y : List Int) (i j : Nat) : stV x y i j 1 = if rdP x y i j then min (readAt x i (yAt y j).toNat + ed x y (i + 1) (j + 1)) INF else INF := rfl
theorem stV2 (x : Input) (y : List Int) (i j : Nat) : stV x y i j 2 = if i < x.columns.length then min (delAt x i + ed x y (i + 1) j) INF else INF := rfl
theorem stV3 (x : Input) (y : List Int) (i j : Nat) : stV x y i j 3 = if j < y.length then min (insAt x (yAt y j).toNat + ed x y i (j + 1)) INF else INF := rfl
theorem stV4 (x : Input) (y : List Int) (i j : Nat) : stV x y i j 4 = if swP x y i j then min (x.swap + ed x y (i + 2) (j + 2)) INF else INF := rfl
theorem bst0 (x : Input) (y : List Int) (i j : Nat) : bst x y i j 0 = if i = x.columns.length ∧ j = y.length then 0 else INF := rfl
theorem bst_top (x : Input) (y : List Int) (i j : Nat) : ∀ k, bst x y i j k ≤ INF
  | 0 => by unfold bst; split <;> simp [INF]
  | k + 1 => by unfold bst; have := bst_top x y i j k; omega
theorem ed_eq (x : Input) (y : List Int) (i j : Nat) : ed x y i j = bst x y i j 4 := by
  rw [ed]
  have h0 := bst_top x y i j 0
  have h1 := bst_top x y i j 1
  have h2 := bst_top x y i j 2
  have h3 := bst_top x y i j 3
  show _ = min (bst x y i j 3) (stV x y i j 4)
  have e0 : bst x y i j 0 = if i = x.columns.length ∧ j = y.length then 0 else INF := rfl
  have e1 : bst x y i j 1 = min (bst x y i j 0) (stV x y i j 1) := rfl
  have e2 : bst x y i j 2 = min (bst x y i j 1) (stV x y i j 2) := rfl
  have e3 : bst x y i j 3 = min (bst x y i j 2) (stV x y i j 3) := rfl
  rw [← e0]
  have f1 : (if h : rdP x y i j then min (bst x y i j 0) (min (readAt x i (yAt y j).toNat + ed x y (i + 1) (j + 1)) INF) else bst x y i j 0) = bst x y i j 1 := by
    rw [e1, stV1]; split <;> omega
  rw [f1]
  have f2 : (if h : i < x.columns.length then min (bst x y i j 1) (min (delAt x i + ed x y (i + 1) j) INF) else bst x y i j 1) = bst x y i j 2 := by
    rw [e2, stV2]; split <;> omega
  rw [f2]
  have f3 : (if h : j < y.length then min (bst x y i j 2) (min (insAt x (yAt y j).toNat + ed x y i (j + 1)) INF) else bst x y i j 2) = bst x y i j 3 := by
    rw [e3, stV3]; split <;> omega
  rw [f3]
  rw [stV4]
  split <;> omega
theorem ed_top (x : Input) (y : List Int) (i j : Nat) : ed x y i j ≤ INF := by rw [ed_eq]; exact bst_top x y i j 4

/-- Nothing costs less than nothing. -/
structure nnI (x : Input) : Prop where
  ins : ∀ t, 0 ≤ insAt x t
  del : ∀ i, 0 ≤ delAt x i
  swap : 0 ≤ x.swap
theorem ed_nn {x : Input} (h : nnI x) (y : List Int) : ∀ (N i j : Nat), (x.columns.length - i) + (y.length - j) < N → 0 ≤ ed x y i j
  | 0, i, j, hN => by omega
  | N + 1, i, j, hN => by
    have h0 : 0 ≤ bst x y i j 0 := by rw [bst0]; split <;> simp [INF]
    have s1 : 0 ≤ stV x y i j 1 := by
      rw [stV1]; split
      · rename_i hp; have := ed_nn h y N (i + 1) (j + 1) (by have := hp.1; omega); have := hp.2.2; simp only [INF]; omega
      · simp [INF]
    have s2 : 0 ≤ stV x y i j 2 := by
      rw [stV2]; split
      · have := ed_nn h y N (i + 1) j (by omega); have := h.del i; simp only [INF]; omega
      · simp [INF]
    have s3 : 0 ≤ stV x y i j 3 := by
      rw [stV3]; split
      · have := ed_nn h y N i (j + 1) (by omega); have := h.ins (yAt y j).toNat; simp only [INF]; omega
      · simp [INF]
    have s4 : 0 ≤ stV x y i j 4 := by
      rw [stV4]; split
      · rename_i hp; have := ed_nn h y N (i + 2) (j + 2) (by have := swapOk_lt hp.1; have := hp.2.1; omega); have := h.swap; simp only [INF]; omega
      · simp [INF]
    rw [ed_eq]
    show 0 ≤ min (min (min (min (bst x y i j 0) (stV x y i j 1)) (stV x y i j 2)) (stV x y i j 3)) (stV x y i j 4)
    omega

/-- A script from the i-th token on: what it emits, what it costs. -/
inductive Scr (x : Input) : Nat → List Int → Int → Prop
  | nil : Scr x x.columns.length [] 0
  | read {i : Nat} {t : Int} {y : List Int} {c : Int} : i < x.columns.length → 0 ≤ readAt x i t.toNat → Scr x (i + 1) y c → Scr x i (t :: y) (readAt x i t.toNat + c)
  | del {i : Nat} {y : List Int} {c : Int} : i < x.columns.length → Scr x (i + 1) y c → Scr x i y (delAt x i + c)
  | ins {i : Nat} {t : Int} {y : List Int} {c : Int} : Scr x i y c → Scr x i (t :: y) (insAt x t.toNat + c)
  | swap {i : Nat} {y : List Int} {c : Int} : swapOk x i = true → Scr x (i + 2) y c → Scr x i ((x.columns.getD (i + 1) default).kind :: (x.columns.getD i default).kind :: y) (x.swap + c)
theorem Scr.nn {x : Input} (h : nnI x) {i : Nat} {y : List Int} {c : Int} (s : Scr x i y c) : 0 ≤ c := by
  induction s with
  | nil => omega
  | read h1 h2 s ih => omega
  | @del i _ _ h1 s ih => have := h.del i; omega
  | @ins _ t _ _ s ih => have := h.ins t.toNat; omega
  | swap h1 s ih => have := h.swap; omega
theorem Scr.le {x : Input} {i : Nat} {y : List Int} {c : Int} (s : Scr x i y c) : i ≤ x.columns.length := by
  induction s with
  | nil => omega
  | read h1 h2 s ih => omega
  | del h1 s ih => omega
  | ins s ih => exact ih
  | swap h1 s ih => omega
theorem drop_at {y : List Int} {j : Nat} (h : j < y.length) : y.drop j = yAt y j :: y.drop (j + 1) := by
  rw [List.drop_eq_getElem_cons h]
  simp [yAt, List.getD, h]
/-- The edit distance is the least cost of a script. -/
theorem ed_le {x : Input} (hx : nnI x) (y : List Int) : ∀ (N i j : Nat), (x.columns.length - i) + (y.length - j) < N → i ≤ x.columns.length → j ≤ y.length → ∀ v, v < INF →
    (ed x y i j ≤ v ↔ ∃ c, c ≤ v ∧ Scr x i (y.drop j) c)
  | 0, i, j, hN, _, _, _, _ => by omega
  | N + 1, i, j, hN, hi, hj, v, hv => by
    have IH := ed_le hx y N
    have e : ed x y i j = min (min (min (min (bst x y i j 0) (stV x y i j 1)) (stV x y i j 2)) (stV x y i j 3)) (stV x y i j 4) := ed_eq x y i j
    constructor
    · intro h
      have hor : bst x y i j 0 ≤ v ∨ stV x y i j 1 ≤ v ∨ stV x y i j 2 ≤ v ∨ stV x y i j 3 ≤ v ∨ stV x y i j 4 ≤ v := by omega
      rcases hor with h5 | h5 | h5 | h5 | h5
      · rw [bst0] at h5
        split at h5
        · rename_i h2
          obtain ⟨rfl, rfl⟩ := h2
          exact ⟨0, h5, by rw [List.drop_length]; exact .nil⟩
        · omega
      · rw [stV1] at h5
        split at h5
        · rename_i hp
          obtain ⟨p1, p2, p3⟩ := hp
          obtain ⟨c, hc, s⟩ := (IH (i + 1) (j + 1) (by omega) (by omega) (by omega) (v - readAt x i (yAt y j).toNat) (by omega)).1 (by omega)
          exact ⟨readAt x i (yAt y j).toNat + c, by omega, by rw [drop_at p2]; exact .read p1 p3 s⟩
        · omega
      · rw [stV2] at h5
        split at h5
        · rename_i hp
          have := hx.del i
          obtain ⟨c, hc, s⟩ := (IH (i + 1) j (by omega) (by omega) (by omega) (v - delAt x i) (by omega)).1 (by omega)
          exact ⟨delAt x i + c, by omega, .del hp s⟩
        · omega
      · rw [stV3] at h5
        split at h5
        · rename_i hp
          have := hx.ins (yAt y j).toNat
          obtain ⟨c, hc, s⟩ := (IH i (j + 1) (by omega) (by omega) (by omega) (v - insAt x (yAt y j).toNat) (by omega)).1 (by omega)
          exact ⟨insAt x (yAt y j).toNat + c, by omega, by rw [drop_at hp]; exact .ins s⟩
        · omega
      · rw [stV4] at h5
        split at h5
        · rename_i hp
          obtain ⟨p1, p2, p3, p4⟩ := hp
          have := swapOk_lt p1
          have := hx.swap
          obtain ⟨c, hc, s⟩ := (IH (i + 2) (j + 2) (by omega) (by omega) (by omega) (v - x.swap) (by omega)).1 (by omega)
          refine ⟨x.swap + c, by omega, ?_⟩
          rw [drop_at (show j < y.length by omega), drop_at p2, p3, p4]
          exact .swap p1 s
        · omega
    · rintro ⟨c, hc, s⟩
      generalize hz : y.drop j = z at s
      cases s with
      | nil =>
        have hj2 : j = y.length := by
          have := congrArg List.length hz
          simp at this; omega
        have : bst x y x.columns.length j 0 = 0 := by rw [bst0, if_pos ⟨rfl, hj2⟩]
        omega
      | @read _ t y' c' h1 h2 s =>
        have hjl : j < y.length := by
          have := congrArg List.length hz
          simp at this; omega
        rw [drop_at hjl] at hz
        obtain ⟨rfl, rfl⟩ := List.cons.inj hz
        have := (IH (i + 1) (j + 1) (by omega) (by omega) (by omega) (v - readAt x i (yAt y j).toNat) (by omega)).2 ⟨c', by omega, s⟩
        have e1 : stV x y i j 1 = min (readAt x i (yAt y j).toNat + ed x y (i + 1) (j + 1)) INF := by rw [stV1, if_pos ⟨h1, hjl, h2⟩]
        omega
      | @del _ _ c' h1 s =>
        subst hz
        have := hx.del i
        have := (IH (i + 1) j (by omega) (by omega) (by omega) (v - delAt x i) (by omega)).2 ⟨c', by omega, s⟩
        have e1 : stV x y i j 2 = min (delAt x i + ed x y (i + 1) j) INF := by rw [stV2, if_pos h1]
        omega
      | @ins _ t y' c' s =>
        have hjl : j < y.length := by
          have := congrArg List.length hz
          simp at this; omega
        rw [drop_at hjl] at hz
        obtain ⟨rfl, rfl⟩ := List.cons.inj hz
        have := hx.ins (yAt y j).toNat
        have := (IH i (j + 1) (by omega) (by omega) (by omega) (v - insAt x (yAt y j).toNat) (by omega)).2 ⟨c', by omega, s⟩
        have e1 : stV x y i j 3 = min (insAt x (yAt y j).toNat + ed x y i (j + 1)) INF := by rw [stV3, if_pos hjl]
        omega
      | @swap _ y' c' h1 s =>
        have hjl : j + 1 < y.length := by
          have := congrArg List.length hz
          simp at this; omega
        rw [drop_at (show j < y.length by omega), drop_at hjl] at hz
        obtain ⟨k1, hz⟩ := List.cons.inj hz
        obtain ⟨k2, rfl⟩ := List.cons.inj hz
        have := swapOk_lt h1
        have := hx.swap
        have := (IH (i + 2) (j + 2) (by omega) (by omega) (by omega) (v - x.swap) (by omega)).2 ⟨c', by omega, s⟩
        have e1 : stV x y i j 4 = min (x.swap + ed x y (i + 2) (j + 2)) INF := by rw [stV4, if_pos ⟨h1, hjl, k1, k2⟩]
        omega

/-! paths and scripts -/
theorem delC_self (x : Input) (i : Nat) : delC x i i = 0 := by
  unfold delC
  rw [List.drop_of_length_le (by simp; omega)]
  rfl
theorem delC_step (x : Input) {i m : Nat} (h : i ≤ m) (hm : m < x.columns.length) : delC x i (m + 1) = min (delC x i m + delAt x m) INF := delC_snoc x h hm
/-- Tokens are deleted first. -/
theorem Scr.dels {x : Input} (hd : delOk x.columns) {y : List Int} {c : Int} : ∀ (d i : Nat), i + d ≤ x.columns.length → delC x i (i + d) < INF → Scr x (i + d) y c → Scr x i y (delC x i (i + d) + c)
  | 0, i, _, _, s => by rw [Nat.add_zero] at s ⊢; rw [delC_self]; simpa using s
  | d + 1, i, hi, hlt, s => by
    have hn := (delC_bound hd i (i + d)).1
    have h1 := delC_step x (show i ≤ i + d by omega) (by omega)
    rw [Nat.add_assoc] at h1
    have hda : 0 ≤ delAt x (i + d) := by
      have := hd.2 (x.columns.getD (i + d) default) (by simp [List.getD, show i + d < x.columns.length by omega])
      exact this.1
    have h2 : delC x i (i + (d + 1)) = delC x i (i + d) + delAt x (i + d) := by omega
    have s2 : Scr x (i + d) y (delAt x (i + d) + c) := .del (by omega) s
    have := Scr.dels hd d i (by omega) (by omega) s2
    rw [h2, Int.add_assoc]
    exact this
/-- An arc of the lattice, told by what it does. -/
inductive ArcOf (x : Input) (a : Arc) : Prop
  | read (i m t : Nat) : i ≤ m → m < x.columns.length → 0 ≤ readAt x m t → a.f = 2 * i → a.t = 2 * m + 2 → a.term = t → t < x.insert.length → delC x i m < INF → a.cost = delC x i m + readAt x m t → ArcOf x a
  | ins (i m t : Nat) : i ≤ m → m ≤ x.columns.length → a.f = 2 * i → a.t = 2 * m → a.term = t → t < x.insert.length → delC x i m < INF → a.cost = delC x i m + insAt x t → ArcOf x a
  | sw1 (i m : Nat) : i ≤ m → swapOk x m = true → a.f = 2 * i → a.t = 2 * m + 1 → a.term = (x.columns.getD (m + 1) default).kind → delC x i m < INF → a.cost = delC x i m + x.swap → ArcOf x a
  | sw2 (i : Nat) : swapOk x i = true → a.f = 2 * i + 1 → a.t = 2 * i + 4 → a.term = (x.columns.getD i default).kind → a.cost = 0 → ArcOf x a
theorem satA_lt {a b : Int} (ha : 0 ≤ a) (hb : 0 ≤ b) (h : satA a b < INF) : satA a b = a + b ∧ a < INF := by
  simp only [INF] at *
  unfold satA at h ⊢
  split at h
  · omega
  · rename_i h2; rw [if_neg h2]; omega
theorem arc_of_ref {x : Input} (hd : delOk x.columns) (hx : nnI x) {a : Arc} (ha : a ∈ refArcs x) : ArcOf x a := by
  obtain ⟨hm, hcost⟩ := refArcs_mem ha
  rcases hm with hm | hm
  · obtain ⟨i, _, hi, hm⟩ := mem_ft hm
    unfold rI at hm
    rw [List.mem_append] at hm
    rcases hm with hm | hm
    · obtain ⟨m, him, hmn, hm⟩ := mem_ft hm
      unfold rM at hm
      rw [List.mem_append] at hm
      rcases hm with hm | hm
      · obtain ⟨t, _, ht, hm⟩ := mem_ft hm
        unfold rA at hm
        split at hm
        · rename_i hr
          simp only [List.mem_singleton] at hm
          subst hm
          have := satA_lt (delC_bound hd i m).1 hr.2 hcost
          exact .read i m t him hr.1 hr.2 rfl rfl rfl ht this.2 this.1
        · simp at hm
      · unfold rS at hm
        split at hm
        · rename_i hr
          simp only [List.mem_singleton] at hm
          subst hm
          have := satA_lt (delC_bound hd i m).1 hx.swap hcost
          exact .sw1 i m him hr rfl rfl rfl this.2 this.1
        · simp at hm
    · obtain ⟨hr, rfl⟩ := mem_rT hm
      exact .sw2 i hr rfl rfl rfl rfl
  · obtain ⟨i, _, hi, hm⟩ := mem_ft hm
    unfold iI at hm
    obtain ⟨m, him, hmn, hm⟩ := mem_ft hm
    unfold iM at hm
    obtain ⟨t, _, ht, hm⟩ := mem_ft hm
    simp only [iT, List.mem_singleton] at hm
    subst hm
    have := satA_lt (delC_bound hd i m).1 (hx.ins t) hcost
    exact .ins i m t him (by omega) rfl rfl rfl ht this.2 this.1
/-- A path is a script. -/
theorem path_scr {x : Input} (hd : delOk x.columns) (hx : nnI x) {y : List Int} {s : Nat} {c : Int} (p : PathTo (refArcs x) y s c) :
    (∀ i, s = 2 * i → ∀ y' c', Scr x i y' c' → Scr x 0 (y ++ y') (c + c')) ∧
    (∀ i, s = 2 * i + 1 → ∀ y' c', Scr x (i + 2) y' c' → Scr x 0 (y ++ (x.columns.getD i default).kind :: y') (c + c')) := by
  induction p with
  | nil =>
    refine ⟨fun i hi y' c' s => ?_, fun i hi => by omega⟩
    have : i = 0 := by omega
    subst this
    simpa using s
  | @snoc ys s c a p ha hf ih =>
    cases arc_of_ref hd hx ha with
    | read i m t him hm hr h1 h2 h3 ht hlt h4 =>
      refine ⟨fun q hq y' c' s' => ?_, fun q hq => by omega⟩
      have : q = m + 1 := by omega
      subst this
      obtain ⟨d, rfl⟩ : ∃ d, m = i + d := ⟨m - i, by omega⟩
      have s1 : Scr x (i + d) (a.term :: y') (readAt x (i + d) a.term.toNat + c') := .read hm (by rw [h3]; simpa using hr) s'
      have s2 := Scr.dels hd d i (by omega) hlt s1
      have := ih.1 i (by omega) _ _ s2
      rw [h4, List.append_assoc]
      rw [h3] at this ⊢
      simp only [Int.toNat_natCast] at this
      rw [show c + (delC x i (i + d) + readAt x (i + d) t) + c' = c + (delC x i (i + d) + (readAt x (i + d) t + c')) by omega]
      exact this
    | ins i m t him hm h1 h2 h3 ht hlt h4 =>
      refine ⟨fun q hq y' c' s' => ?_, fun q hq => by omega⟩
      have : q = m := by omega
      subst this
      obtain ⟨d, rfl⟩ : ∃ d, q = i + d := ⟨q - i, by omega⟩
      have s1 : Scr x (i + d) (a.term :: y') (insAt x a.term.toNat + c') := .ins s'
      have s2 := Scr.dels hd d i (by omega) hlt s1
      have := ih.1 i (by omega) _ _ s2
      rw [h4, List.append_assoc]
      rw [h3] at this ⊢
      simp only [Int.toNat_natCast] at this
      rw [show c + (delC x i (i + d) + insAt x t) + c' = c + (delC x i (i + d) + (insAt x t + c')) by omega]
      exact this
    | sw1 i m him hsw h1 h2 h3 hlt h4 =>
      refine ⟨fun q hq => by omega, fun q hq y' c' s' => ?_⟩
      have : q = m := by omega
      subst this
      have hql := swapOk_lt hsw
      obtain ⟨d, rfl⟩ : ∃ d, q = i + d := ⟨q - i, by omega⟩
      have s1 := Scr.swap hsw s'
      have s2 := Scr.dels hd d i (by omega) hlt s1
      have := ih.1 i (by omega) _ _ s2
      rw [h4, List.append_assoc, h3]
      rw [show c + (delC x i (i + d) + x.swap) + c' = c + (delC x i (i + d) + (x.swap + c')) by omega]
      exact this
    | sw2 i hsw h1 h2 h3 h4 =>
      refine ⟨fun q hq y' c' s' => ?_, fun q hq => by omega⟩
      have : q = i + 2 := by omega
      subst this
      have := ih.2 i (by omega) _ _ s'
      rw [h4, List.append_assoc, h3]
      rw [show c + 0 + c' = c + c' by omega]
      exact this
/-- The cheapest candidate of a key is an arc. -/
theorem step_best (k : Arc) (cs : List Arc) : ∀ o, (∀ a, o = some a → sameKey k a = true ∧ a.cost < INF) → (∀ a ∈ cs, sameKey k a = true → a.cost < INF → ∃ b, cs.foldl (stepK k) o = some b ∧ sameKey k b = true ∧ b.cost ≤ a.cost) ∧
    (∀ a, o = some a → ∃ b, cs.foldl (stepK k) o = some b ∧ sameKey k b = true ∧ b.cost ≤ a.cost) := by
  induction cs with
  | nil => intro o ho; exact ⟨fun a ha => by simp at ha, fun a ha => ⟨a, ha, (ho a ha).1, Int.le_refl _⟩⟩
  | cons e cs ih =>
    intro o ho
    have ho' : ∀ a, stepK k o e = some a → sameKey k a = true ∧ a.cost < INF := by
      intro a h
      unfold stepK at h
      split at h
      · rename_i hc
        split at h
        · simp only [Option.some.injEq] at h; subst h; exact ⟨hc.2, hc.1⟩
        · split at h
          · simp only [Option.some.injEq] at h; subst h; exact ⟨hc.2, hc.1⟩
          · exact ho a h
      · exact ho a h
    obtain ⟨i1, i2⟩ := ih _ ho'
    have hold : ∀ a, o = some a → ∃ b, stepK k o e = some b ∧ b.cost ≤ a.cost := by
      rintro a rfl
      unfold stepK
      split
      · split
        · rename_i h; cases h
        · rename_i b hb
          cases hb
          split
          · exact ⟨e, rfl, by omega⟩
          · exact ⟨_, rfl, Int.le_refl _⟩
      · exact ⟨_, rfl, Int.le_refl _⟩
    have hnew : sameKey k e = true → e.cost < INF → ∃ b, stepK k o e = some b ∧ b.cost ≤ e.cost := by
      intro h1 h2
      unfold stepK
      rw [if_pos ⟨h2, h1⟩]
      split
      · exact ⟨e, rfl, Int.le_refl _⟩
      · split
        · exact ⟨e, rfl, Int.le_refl _⟩
        · exact ⟨_, rfl, by omega⟩
    refine ⟨fun a ha h1 h2 => ?_, fun a ha => ?_⟩
    · rcases List.mem_cons.1 ha with rfl | ha
      · obtain ⟨b, hb, hle⟩ := hnew h1 h2
        obtain ⟨b', hb', hk, hle'⟩ := i2 b hb
        exact ⟨b', hb', hk, by omega⟩
      · exact i1 a ha h1 h2
    · obtain ⟨b, hb, hle⟩ := hold a ha
      obtain ⟨b', hb', hk, hle'⟩ := i2 b hb
      exact ⟨b', hb', hk, by omega⟩
theorem ref_best {x : Input} {a : Arc} (ha : a ∈ refC x) (hc : a.cost < INF) : ∃ b ∈ refArcs x, a.f = b.f ∧ a.t = b.t ∧ a.term = b.term ∧ b.cost ≤ a.cost := by
  obtain ⟨b, hb, hk, hle⟩ := (step_best a (refC x) none (fun _ h => by cases h)).1 a ha (sameKey_refl a) hc
  have hkk := sameKey_iff.1 hk
  refine ⟨b, ?_, hkk.1, hkk.2.1, hkk.2.2, hle⟩
  rw [mem_find (sorted_keys (refArcs_sorted x))]
  unfold refArcs
  rw [← putAll_append, putAll_find _ _ List.Pairwise.nil]
  have e : stepK b = stepK a := by
    funext o c
    unfold stepK
    have : sameKey b c = sameKey a c := by rw [sameKey_symm b c, sameKey_symm a c]; exact (sameKey_left hk c).symm
    rw [this]
  rw [e]
  exact hb
theorem mem_ft_of {α : Type} {f : Nat → List α} {i m k : Nat} {a : α} (h1 : i ≤ k) (h2 : k < m) (h : a ∈ f k) : a ∈ ft f i m := by
  unfold ft
  rw [List.mem_flatMap]
  exact ⟨k - i, by rw [List.mem_range]; omega, by rw [show i + (k - i) = k by omega]; exact h⟩
theorem satA_le {a b : Int} (h : a + b < INF) (ha : 0 ≤ a) (hb : 0 ≤ b) : satA a b = a + b := by
  unfold satA
  rw [if_neg (by simp only [INF] at h; omega)]
/-- A script is a path. -/
theorem scr_path {x : Input} (hd : delOk x.columns) (hx : nnI x) {i : Nat} {y' : List Int} {c' : Int} (s : Scr x i y' c') : (∀ t ∈ y', 0 ≤ t ∧ t < x.insert.length) → ∀ (i0 : Nat) (y : List Int) (c : Int), i0 ≤ i → 0 ≤ c → PathTo (refArcs x) y (2 * i0) c → c + delC x i0 i + c' < INF →
    ∃ e c2, e < 2 * x.columns.length + 1 ∧ PathTo (refArcs x) (y ++ y') e c2 ∧ c2 + (refBuildL x).final.getD e default ≤ c + delC x i0 i + c' := by
  induction s with
  | nil =>
    intro hy i0 y c hi hc0 p hlt
    refine ⟨2 * i0, c, by omega, by simpa using p, ?_⟩
    rw [ref_fin x (by omega), if_pos (by omega), show 2 * i0 / 2 = i0 by omega]
    omega
  | @read i t y' c' h1 h2 s ih =>
    intro hy i0 y c hi hc0 p hlt
    have hsn := s.nn hx
    have hdn := (delC_bound hd i0 i).1
    have ht := hy t (by simp)
    obtain ⟨k, hk⟩ : ∃ k : Nat, t = k := ⟨t.toNat, by omega⟩
    subst hk
    simp only [Int.toNat_natCast] at h2 hlt ⊢
    have hs := satA_le (a := delC x i0 i) (b := readAt x i k) (by omega) hdn h2
    have hmem : (⟨2 * i0, 2 * i + 2, k, satA (delC x i0 i) (readAt x i k), dels (i - i0) ++ [(1, (k : Int))]⟩ : Arc) ∈ refC x := by
      unfold refC
      rw [List.mem_append]
      left
      refine mem_ft_of (Nat.zero_le i0) (by omega) ?_
      unfold rI
      rw [List.mem_append]
      left
      refine mem_ft_of hi (by omega) ?_
      unfold rM
      rw [List.mem_append]
      left
      refine mem_ft_of (Nat.zero_le k) (by omega) ?_
      unfold rA
      rw [if_pos ⟨h1, h2⟩]
      exact List.mem_singleton.2 rfl
    obtain ⟨b, hb, k1, k2, k3, k4⟩ := ref_best hmem (by simp only; omega)
    simp only at k1 k2 k3 k4
    have hbn := (arc_of_ref hd hx hb)
    have hbc : 0 ≤ b.cost := by
      cases hbn with
      | read i m t _ _ h _ _ _ _ _ e => have := (delC_bound hd i m).1; omega
      | ins i m t _ _ _ _ _ _ _ e => have := (delC_bound hd i m).1; have := hx.ins t; omega
      | sw1 i m _ _ _ _ _ _ e => have := (delC_bound hd i m).1; have := hx.swap; omega
      | sw2 i _ _ _ _ e => omega
    have p2 := PathTo.snoc b p hb (by omega)
    rw [← k3, show b.t.toNat = 2 * (i + 1) by omega] at p2
    obtain ⟨e, c2, e1, e2, e3⟩ := ih (fun t ht => hy t (by simp [ht])) (i + 1) _ _ (Nat.le_refl _) (by omega) p2 (by rw [delC_self]; omega)
    refine ⟨e, c2, e1, by simpa using e2, ?_⟩
    rw [delC_self] at e3
    omega
  | @del i y' c' h1 s ih =>
    intro hy i0 y c hi hc0 p hlt
    have h2 := delC_step x hi h1
    obtain ⟨e, c2, e1, e2, e3⟩ := ih hy i0 y c (by omega) hc0 p (by omega)
    exact ⟨e, c2, e1, e2, by omega⟩
  | @ins i t y' c' s ih =>
    intro hy i0 y c hi hc0 p hlt
    have hsn := s.nn hx
    have hdn := (delC_bound hd i0 i).1
    have ht := hy t (by simp)
    obtain ⟨k, hk⟩ : ∃ k : Nat, t = k := ⟨t.toNat, by omega⟩
    subst hk
    simp only [Int.toNat_natCast] at hlt ⊢
    have hin := hx.ins k
    have hil : i ≤ x.columns.length := s.le
    have hs := satA_le (a := delC x i0 i) (b := insAt x k) (by omega) hdn hin
    have hmem : (⟨2 * i0, 2 * i, k, satA (delC x i0 i) (insAt x k), dels (i - i0) ++ [(3, (k : Int))]⟩ : Arc) ∈ refC x := by
      unfold refC
      rw [List.mem_append]
      right
      refine mem_ft_of (Nat.zero_le i0) (by omega) ?_
      unfold iI
      refine mem_ft_of hi (by omega) ?_
      unfold iM
      refine mem_ft_of (Nat.zero_le k) (by omega) ?_
      exact List.mem_singleton.2 rfl
    obtain ⟨b, hb, k1, k2, k3, k4⟩ := ref_best hmem (by simp only; omega)
    simp only at k1 k2 k3 k4
    have hbn := (arc_of_ref hd hx hb)
    have hbc : 0 ≤ b.cost := by
      cases hbn with
      | read i m t _ _ h _ _ _ _ _ e => have := (delC_bound hd i m).1; omega
      | ins i m t _ _ _ _ _ _ _ e => have := (delC_bound hd i m).1; have := hx.ins t; omega
      | sw1 i m _ _ _ _ _ _ e => have := (delC_bound hd i m).1; have := hx.swap; omega
      | sw2 i _ _ _ _ e => omega
    have p2 := PathTo.snoc b p hb (by omega)
    rw [← k3, show b.t.toNat = 2 * i by omega] at p2
    obtain ⟨e, c2, e1, e2, e3⟩ := ih (fun t ht => hy t (by simp [ht])) i _ _ (Nat.le_refl _) (by omega) p2 (by rw [delC_self]; omega)
    refine ⟨e, c2, e1, by simpa using e2, ?_⟩
    rw [delC_self] at e3
    omega
  | @swap i y' c' h1 s ih =>
    intro hy i0 y c hi hc0 p hlt
    have hsn := s.nn hx
    have hdn := (delC_bound hd i0 i).1
    have hil := swapOk_lt h1
    have hsw := hx.swap
    have hs := satA_le (a := delC x i0 i) (b := x.swap) (by omega) hdn hsw
    have hmem1 : (⟨2 * i0, 2 * i + 1, (x.columns.getD (i + 1) default).kind, satA (delC x i0 i) x.swap, dels (i - i0) ++ [(4, 0)]⟩ : Arc) ∈ refC x := by
      unfold refC
      rw [List.mem_append]
      left
      refine mem_ft_of (Nat.zero_le i0) (by omega) ?_
      unfold rI
      rw [List.mem_append]
      left
      refine mem_ft_of hi (by omega) ?_
      unfold rM
      rw [List.mem_append]
      right
      unfold rS
      rw [if_pos h1]
      exact List.mem_singleton.2 rfl
    have hmem2 : (⟨2 * i + 1, 2 * i + 4, (x.columns.getD i default).kind, 0, []⟩ : Arc) ∈ refC x := by
      unfold refC
      rw [List.mem_append]
      left
      refine mem_ft_of (Nat.zero_le i) (by omega) ?_
      unfold rI
      rw [List.mem_append]
      right
      unfold rT
      rw [if_pos h1]
      exact List.mem_singleton.2 rfl
    have nnb : ∀ b ∈ refArcs x, 0 ≤ b.cost := by
      intro b hb
      cases arc_of_ref hd hx hb with
      | read i m t _ _ h _ _ _ _ _ e => have := (delC_bound hd i m).1; omega
      | ins i m t _ _ _ _ _ _ _ e => have := (delC_bound hd i m).1; have := hx.ins t; omega
      | sw1 i m _ _ _ _ _ _ e => have := (delC_bound hd i m).1; omega
      | sw2 i _ _ _ _ e => omega
    obtain ⟨b, hb, k1, k2, k3, k4⟩ := ref_best hmem1 (by simp only; omega)
    obtain ⟨b', hb', l1, l2, l3, l4⟩ := ref_best hmem2 (by simp [INF])
    simp only at k1 k2 k3 k4 l1 l2 l3 l4
    have hbc := nnb b hb
    have hbc' := nnb b' hb'
    have p2 := PathTo.snoc b p hb (by omega)
    rw [← k3, show b.t.toNat = 2 * i + 1 by omega] at p2
    have p3 := PathTo.snoc b' p2 hb' (by omega)
    rw [← l3, show b'.t.toNat = 2 * (i + 2) by omega] at p3
    obtain ⟨e, c2, e1, e2, e3⟩ := ih (fun t ht => hy t (by simp [ht])) (i + 2) _ _ (Nat.le_refl _) (by omega) p3 (by rw [delC_self]; omega)
    refine ⟨e, c2, e1, by simpa using e2, ?_⟩
    rw [delC_self] at e3
    omega
theorem fair_nn {x : Input} {k : Int} (h : fairP x k) : nnI x := by
  obtain ⟨g1, g2, g3, g4⟩ := fair_ok h
  refine ⟨fun t => ?_, fun i => ?_, g1.2.2.2.2.1⟩
  · unfold insAt
    by_cases ht : t < x.insert.length
    · have := fair_ins h ht; omega
    · rw [List.getD, List.getElem?_eq_none (by omega)]; exact Int.le_refl 0
  · unfold delAt
    by_cases hi : i < x.columns.length
    · exact (g1.1.2 (x.columns.getD i default) (by simp [List.getD, hi])).1
    · rw [List.getD, List.getElem?_eq_none (by omega)]; exact Int.le_refl 0
/-- The least cost of an accepting path with a label is the edit distance. -/
theorem dist_ed {x : Input} {k : Int} (h : fairP x k) {y : List Int} (hy : ∀ t ∈ y, 0 ≤ t ∧ t < x.insert.length) : distL (refBuildL x) y = ed x y 0 0 := by
  obtain ⟨g1, g2, g3, g4⟩ := fair_ok h
  have hx := fair_nn h
  have hv := ref_valid h
  have hfl : (refBuildL x).final.length = 2 * x.columns.length + 1 := refFin_len x _
  have hI : INF = 1099511627776 := rfl
  have key : ∀ v, v < INF → (distL (refBuildL x) y ≤ v ↔ ed x y 0 0 ≤ v) := by
    intro v hvi
    rw [dist_le (valid_arcs hv) (valid_fin hv) hvi, ed_le hx y _ 0 0 (Nat.lt_succ_self _) (Nat.zero_le _) (Nat.zero_le _) v hvi, List.drop_zero]
    constructor
    · rintro ⟨s, c, hs, p, hc⟩
      rw [hfl] at hs
      have hpc := p.cost fun a h => ((valid_arcs hv) a h).2.2.2.2.1
      rw [ref_fin x hs] at hc
      split at hc
      · rename_i he
        obtain ⟨i, rfl⟩ : ∃ i, s = 2 * i := ⟨s / 2, by omega⟩
        rw [show 2 * i / 2 = i by omega] at hc
        obtain ⟨d, hd⟩ : ∃ d, x.columns.length = i + d := ⟨x.columns.length - i, by omega⟩
        have s1 := Scr.dels g1.1 d i (by omega) (by rw [← hd]; omega) (by rw [← hd]; exact Scr.nil)
        have := (path_scr g1.1 hx p).1 i rfl _ _ s1
        rw [List.append_nil, ← hd] at this
        exact ⟨_, by omega, this⟩
      · omega
    · rintro ⟨c, hc, s⟩
      obtain ⟨e, c2, e1, e2, e3⟩ := scr_path g1.1 hx s hy 0 [] 0 (Nat.le_refl _) (Int.le_refl _) .nil (by rw [delC_self]; omega)
      rw [delC_self] at e3
      exact ⟨e, c2, by rw [hfl]; exact e1, (by simpa using e2 : PathTo (refArcs x) y e c2), by omega⟩
  have t1 := dist_top (refBuildL x) y
  have t2 := ed_top x y 0 0
  by_cases h1 : distL (refBuildL x) y < INF
  · have := (key _ h1).1 (Int.le_refl _)
    have := (key _ (show ed x y 0 0 < INF by omega)).2 (Int.le_refl _)
    omega
  · by_cases h2 : ed x y 0 0 < INF
    · have := (key _ h2).2 (Int.le_refl _)
      omega
    · omega
end Go.Proofs
/- The edit distance, the specification. Conditions: none. -/
namespace Go.Proofs
open Go.DM Go.DM.Srt
set_option linter.unusedSimpArgs false
set_option linter.unusedVariables false

theorem getD_mem {l : List Int} {v : Nat} (h : v < l.length) : l.getD v default ∈ l := by
  rw [List.getD, List.getElem?_eq_getElem h]; exact List.getElem_mem h
theorem wrapN {n : Nat} (h : n ≤ 1000000000000000000) : IntKind.i64.wrap (n : Int) = n := wrap_id (by omega)
theorem belowP_at {y : List Int} {terms : Int} (h : belowP y terms) {j : Nat} (hj : j < y.length) : 0 ≤ yAt y j ∧ yAt y j < terms := by
  have := h j hj
  unfold yAt
  omega
set_option maxRecDepth 20000 in
set_option maxHeartbeats 8000000 in
theorem t41 (x : Input) (y : List Int) (hb : belowP y x.insert.length) (hy : y.length ≤ 1000000000) : CallsOk Try.prog 41 [x.enc, .sl (intsT y)] (.bool true) := by
  have hΓ := okE
  refine c41.ok (by simp) (initSt_sat ?_)
  simp [Input.enc]
  refine SatD.regSeq hΓ follows [1, 2] ?_
  simp [d41r0]
  refine SatD.le (Le.keep (o := []) (l := [(1, .v (.sl (intsT y))), (2, .v (.box [.sl (colsT x.columns), .sl (intsT x.insert), ti x.swap]))]) (nxt' := 1200) ?_ ?_ ?_ ?_) ?_
  · simp
  · simp
  · simp
  · simp
  refine SatD.seq ?_
  refine SatD.regSeq hΓ follows [1, 2, 5] ?_
  simp [d41r1]
  refine SatD.block ?_
  refine SatD.loop (fun j : Nat => ⟨DM.look [(1, .v (.sl (intsT y))), (2, .v (.box [.sl (colsT x.columns), .sl (intsT x.insert), ti x.swap])), (5, .v (ti j))], obs [], 2000, 1000, []⟩)
    (fun j => j ≤ y.length) (fun j => y.length - j) 0 (Le.keep (o := []) ?_ ?_ ?_ ?_) (by simp) (fun j hj => ?_)
  · simp
  · simp
  · simp
  · simp
  refine SatD.seq ?_
  refine SatD.regSeq hΓ follows [1, 2, 5, 9] ?_
  simp [d41r2]
  refine SatD.cond rfl (fun hcc => ?_) (fun hcc => ?_)
  · simp at hcc
    refine SatD.skip ?_
    simp
    refine SatD.seq ?_
    refine SatD.block ?_
    have r1 := rowAt_ints hcc
    have hbj := belowP_at hb hcc
    obtain ⟨u, hu⟩ : ∃ u, y.getD j default = u := ⟨_, rfl⟩
    rw [hu] at r1
    unfold yAt at hbj
    rw [hu] at hbj
    have q1 : ¬ u < 0 := by omega
    have q2 : ¬ (x.insert.length : Int) ≤ u := by omega
    refine SatD.regSeq hΓ follows [1, 2, 5, 26] ?_
    simp [d41r3, r1, hcc, q1, q2]
    refine SatD.cond rfl (fun hcc => by cases hcc) (fun hcc => ?_)
    refine SatD.skip ?_
    simp
    refine SatD.reg hΓ follows [1, 2, 5] ?_
    simp [d41r5]
    rw [wrap_id (by omega)]
    refine ⟨j + 1, Le.keep (o := []) ?_ ?_ ?_ ?_, by omega, by omega⟩
    · simp
    · simp
    · simp
    · simp
  · simp at hcc
    refine SatD.exit ?_
    simp
    refine SatD.regSeq hΓ follows [4] ?_
    simp [d41r6]
    refine SatD.ret ?_
    simp [d41res]
set_option maxRecDepth 20000 in
set_option maxHeartbeats 8000000 in
theorem t72 (a b : Int) (ha : -1000000000000000000 ≤ a ∧ a ≤ 1000000000000000000) (hb : -1000000000000000000 ≤ b ∧ b ≤ 1000000000000000000) : CallsOk Try.prog 72 [ti a, ti b] (ti (min (a + b) INF)) := by
  have hΓ := okE
  refine c72.ok (by simp) (initSt_sat ?_)
  simp
  refine SatD.regSeq hΓ follows [0, 1] ?_
  simp [d72r0]
  have w1 : IntKind.i64.wrap (a + b) = a + b := wrap_id (by omega)
  refine SatD.regSeq hΓ follows [4] ?_
  simp [d72r1, w1]
  refine SatD.ret ?_
  simp [d72res]
set_option maxRecDepth 20000 in
set_option maxHeartbeats 8000000 in
theorem t73 (x : Input) (m : Nat) (hm : m ≤ 1000000) (hl : x.columns.length ≤ 1000000) : CallsOk Try.prog 73 [x.enc, ti m] (.bool (swapOk x m)) := by
  have hΓ := okE
  refine c73.ok (by simp) (initSt_sat ?_)
  simp [Input.enc]
  refine SatD.regSeq hΓ follows [1, 2] ?_
  simp [d73r0]
  refine SatD.le (Le.keep (o := []) (l := [(1, .v (ti m)), (2, .v (.box [.sl (colsT x.columns), .sl (intsT x.insert), ti x.swap]))]) (nxt' := 1200) ?_ ?_ ?_ ?_) ?_
  · simp
  · simp
  · simp
  · simp
  obtain ⟨v, hv⟩ : ∃ v, swapOk x m = v := ⟨_, rfl⟩
  rw [hv]
  unfold swapOk at hv
  have w1 : IntKind.i64.wrap ((m : Int) + 1) = ((m + 1 : Nat) : Int) := by rw [wrap_id (by omega)]; omega
  obtain ⟨m1, hm1⟩ : ∃ k, m + 1 = k := ⟨_, rfl⟩
  rw [hm1] at w1 hv
  refine SatD.regToS hΓ follows [(4, .v (.bool v))] ?_ ?_
  · by_cases q1 : 0 < x.swap
    · by_cases q2 : m1 < x.columns.length
      · have q3 : m < x.columns.length := by omega
        have r1 := rowAt_cols q3
        have r2 := rowAt_cols q2
        obtain ⟨⟨k1, rd1, d1⟩, e1⟩ : ∃ c, x.columns.getD m default = c := ⟨_, rfl⟩
        obtain ⟨⟨k2, rd2, d2⟩, e2⟩ : ∃ c, x.columns.getD m1 default = c := ⟨_, rfl⟩
        rw [e1] at r1 hv
        rw [e2] at r2 hv
        simp only at hv
        by_cases q4 : 0 ≤ k1
        · by_cases q5 : 0 ≤ k2
          · have : v = true := by rw [← hv]; simp [q1, q2, q4, q5]
            simp [d73r1, w1, q1, q2, q3, r1, r2, Column.enc, q4, q5, this]
          · have : v = false := by rw [← hv]; simp [q5]
            simp [d73r1, w1, q1, q2, q3, r1, r2, Column.enc, q4, q5, this]
        · have : v = false := by rw [← hv]; simp [q4]
          simp [d73r1, w1, q1, q2, q3, r1, r2, Column.enc, q4, this]
      · have : v = false := by rw [← hv]; simp [q2]
        simp [d73r1, w1, q1, q2, this]
    · have : v = false := by rw [← hv]; simp [q1]
      simp [d73r1, w1, q1, this]
  refine SatD.ret ?_
  simp [d73res]

abbrev e72 : DM.Spec := specP (fun ts => ∃ a b : Int, ts = [ti a, ti b] ∧ (-1000000000000000000 ≤ a ∧ a ≤ 1000000000000000000) ∧ (-1000000000000000000 ≤ b ∧ b ≤ 1000000000000000000)) (fun | [.int _ a, .int _ b] => ti (min (a + b) INF) | _ => .bool false) true
abbrev e73 : DM.Spec := specP (fun ts => ∃ (x : Input) (m : Nat), ts = [x.enc, ti m] ∧ m ≤ 1000000 ∧ x.columns.length ≤ 1000000) (fun | [x, .int _ m] => .bool (swapOk (decX x) m.toNat) | _ => .bool false) true
theorem okE55 : EnvOk Try.prog (envOf [(72, e72), (73, e73)]) := by
  refine EnvOk.cons (EnvOk.cons EnvOk.nil ?_) ?_
  · rintro ts ⟨x, m, rfl, h1, h2⟩
    exact ⟨by simpa using t73 x m h1 h2, fun _ => rfl⟩
  · rintro ts ⟨a, b, rfl, h1, h2⟩
    exact ⟨by simpa using t72 a b h1 h2, fun _ => rfl⟩
/-- Inputs and labels of moderate size whose prices fit. -/
structure edOk (x : Input) (y : List Int) : Prop where
  n : x.columns.length ≤ 60
  m : y.length ≤ 1000
  y : ∀ j, j < y.length → 0 ≤ yAt y j ∧ yAt y j < x.insert.length
  rd : ∀ c ∈ x.columns, c.read.length = x.insert.length ∧ ∀ p ∈ c.read, p ≤ INF
  del : ∀ i, 0 ≤ delAt x i ∧ delAt x i ≤ INF
  ins : ∀ t, 0 ≤ insAt x t ∧ insAt x t ≤ INF
  swap : 0 ≤ x.swap ∧ x.swap ≤ INF
theorem edOk.nn {x : Input} {y : List Int} (h : edOk x y) : nnI x := ⟨fun t => (h.ins t).1, fun i => (h.del i).1, h.swap.1⟩
theorem edOk.bound {x : Input} {y : List Int} (h : edOk x y) (i j : Nat) : 0 ≤ ed x y i j ∧ ed x y i j ≤ INF := ⟨ed_nn h.nn y _ i j (Nat.lt_succ_self _), ed_top x y i j⟩
/-- The table holds the least costs behind a place. -/
def tabOk (x : Input) (y : List Int) (t : List Int) (w i j : Nat) : Prop := t.length = (x.columns.length + 1) * w ∧ ∀ a b, a ≤ x.columns.length → b ≤ y.length → i * w + j < a * w + b → t.getD (a * w + b) default = ed x y a b
theorem tab_lt {n w a b : Nat} (ha : a ≤ n) (hb : b < w) : a * w + b < (n + 1) * w := by
  have := Nat.mul_le_mul_right w ha
  rw [Nat.add_mul, Nat.one_mul]
  omega
theorem tab_big {a w b : Nat} (ha : a ≤ 62) (hw : w ≤ 1001) (hb : b ≤ 1002) : a * w + b ≤ 1000000 := by
  have := Nat.mul_le_mul ha hw
  omega
set_option maxRecDepth 20000 in
set_option maxHeartbeats 8000000 in
theorem t55 (x : Input) (y t : List Int) (w i j k : Nat) (hx : edOk x y) (hw : w = y.length + 1) (hi : i ≤ x.columns.length) (hj : j ≤ y.length) (hk1 : 1 ≤ k) (hk4 : k ≤ 4) (ht : tabOk x y t w i j) :
    CallsOk Try.prog 55 [x.enc, .sl (intsT y), .sl (intsT t), ti w, ti i, ti j, ti k] (ti (stV x y i j k)) := by
  have hΓ := okE55
  have hn := hx.n
  have hm := hx.m
  obtain ⟨ht1, ht2⟩ := ht
  have hI : INF = 1099511627776 := rfl
  have at_ : ∀ a b, a ≤ x.columns.length → b ≤ y.length → i * w + j < a * w + b → a * w + b < t.length ∧ DM.rowAt (intsT t) ((a * w + b : Nat) : Int) = [ti (ed x y a b)] := by
    intro a b ha hb hlt
    have h1 : a * w + b < t.length := by rw [ht1]; exact tab_lt ha (by omega)
    exact ⟨h1, by rw [rowAt_ints h1, ht2 a b ha hb hlt]⟩
  have hcol : ∀ (q : Nat), q < x.columns.length → (x.columns.getD q default).read.length = x.insert.length ∧ ∀ v, 0 ≤ v → v < x.insert.length → (x.columns.getD q default).read.getD v default ≤ INF := by
    intro q hq
    have h1 := hx.rd (x.columns.getD q default) (by simp [List.getD, hq])
    exact ⟨h1.1, fun v hv0 hv => h1.2 _ (getD_mem (by rw [h1.1]; exact hv))⟩
  refine c55.ok (by simp) (initSt_sat ?_)
  simp [Input.enc]
  refine SatD.regSeq hΓ follows [1, 2, 3, 4, 5, 6, 7] ?_
  simp [d55r0]
  refine SatD.le (Le.keep (o := []) (l := [(1, .v (.sl (intsT y))), (2, .v (.sl (intsT t))), (3, .v (ti w)), (4, .v (ti i)), (5, .v (ti j)), (6, .v (ti k)), (7, .v (.box [.sl (colsT x.columns), .sl (intsT x.insert), ti x.swap]))]) (nxt' := 1200) ?_ ?_ ?_ ?_) ?_
  · simp
  · simp
  · simp
  · simp
  refine SatD.regSeq hΓ follows [1, 2, 3, 4, 5, 6, 7, 15] ?_
  simp [d55r1]
  refine SatD.seq ?_
  refine SatD.block ?_
  refine SatD.regToS hΓ follows [(1, .v (.sl (intsT y))), (2, .v (.sl (intsT t))), (3, .v (ti w)), (4, .v (ti i)), (5, .v (ti j)), (6, .v (ti k)), (7, .v (.box [.sl (colsT x.columns), .sl (intsT x.insert), ti x.swap])), (15, .v (ti x.columns.length)), (19, .v (.bool (decide (k = 1 ∧ rdP x y i j))))] ?_ ?_
  · by_cases q1 : k = 1
    · have q1' : (k : Int) = 1 := by omega
      by_cases q2 : i < x.columns.length
      · by_cases q3 : j < y.length
        · have ry := rowAt_ints q3
          have hyj := hx.y j q3
          have ey : y.getD j default = yAt y j := rfl
          rw [ey] at ry
          obtain ⟨v, hv⟩ : ∃ v : Nat, yAt y j = v := ⟨(yAt y j).toNat, by omega⟩
          rw [hv] at ry hyj
          have rc := rowAt_cols q2
          have hc := hcol i q2
          have erd : readAt x i v = (x.columns.getD i default).read.getD v default := rfl
          obtain ⟨⟨kd, rd, dl⟩, ec⟩ : ∃ c, x.columns.getD i default = c := ⟨_, rfl⟩
          rw [ec] at rc hc erd
          simp only at hc erd
          have hvl : v < rd.length := by omega
          have rr := rowAt_ints hvl
          rw [← erd] at rr
          have hrd : rdP x y i j ↔ 0 ≤ readAt x i v := by unfold rdP; rw [hv]; simp [q2, q3]
          obtain ⟨g, hg⟩ : ∃ g, readAt x i v = g := ⟨_, rfl⟩
          rw [hg] at rr hrd
          by_cases q4 : 0 ≤ g
          · have q5 := hrd.2 q4
            simp [d55r2, q1, q1', q2, q3, q4, q5, ry, rc, rr, hvl, Column.enc]
          · have q5 : ¬ rdP x y i j := fun h => q4 (hrd.1 h)
            simp [d55r2, q1, q1', q2, q3, q4, q5, ry, rc, rr, hvl, Column.enc]
        · have q5 : ¬ rdP x y i j := fun h => q3 h.2.1
          simp [d55r2, q1, q1', q2, q3, q5]
      · have q5 : ¬ rdP x y i j := fun h => q2 h.1
        simp [d55r2, q1, q1', q2, q5]
    · have q1' : ¬ (k : Int) = 1 := by omega
      simp [d55r2, q1, q1']
  refine SatD.cond rfl (fun h1 => ?_) (fun h1 => ?_)
  · simp only [decide_eq_true_eq] at h1
    obtain ⟨rfl, hp⟩ := h1
    obtain ⟨q2, q3, q4⟩ := hp
    have ry := rowAt_ints q3
    have hyj := hx.y j q3
    have ey : y.getD j default = yAt y j := rfl
    rw [ey] at ry
    obtain ⟨v, hv⟩ : ∃ v : Nat, yAt y j = v := ⟨(yAt y j).toNat, by omega⟩
    rw [hv] at ry hyj
    have rc := rowAt_cols q2
    have hc := hcol i q2
    have erd : readAt x i v = (x.columns.getD i default).read.getD v default := rfl
    obtain ⟨⟨kd, rd, dl⟩, ec⟩ : ∃ c, x.columns.getD i default = c := ⟨_, rfl⟩
    rw [ec] at rc hc erd
    simp only at hc erd
    have hvl : v < rd.length := by omega
    have rr := rowAt_ints hvl
    rw [← erd] at rr
    rw [hv, Int.toNat_natCast] at q4
    obtain ⟨i1, hi1⟩ : ∃ n, i + 1 = n := ⟨_, rfl⟩
    obtain ⟨p, hp⟩ : ∃ p, i1 * w = p := ⟨_, rfl⟩
    obtain ⟨q, hq⟩ : ∃ q, p + j = q := ⟨_, rfl⟩
    obtain ⟨r, hr⟩ : ∃ r, q + 1 = r := ⟨_, rfl⟩
    have hbig := tab_big (a := i1) (w := w) (b := j + 1) (by omega) (by omega) (by omega)
    rw [hp] at hbig
    have w1 : IntKind.i64.wrap ((i : Int) + 1) = (i1 : Int) := by rw [← hi1]; exact_mod_cast wrapN (n := i + 1) (by omega)
    have w2 : IntKind.i64.wrap ((i1 : Int) * (w : Int)) = (p : Int) := by rw [← hp]; exact_mod_cast wrapN (n := i1 * w) (by omega)
    have w3 : IntKind.i64.wrap ((p : Int) + (j : Int)) = (q : Int) := by rw [← hq]; exact_mod_cast wrapN (n := p + j) (by omega)
    have w4 : IntKind.i64.wrap ((q : Int) + 1) = (r : Int) := by rw [← hr]; exact_mod_cast wrapN (n := q + 1) (by omega)
    have hmul : i1 * w = i * w + w := by rw [← hi1, Nat.add_mul, Nat.one_mul]
    have ha := at_ i1 (j + 1) (by omega) (by omega) (by omega)
    rw [show i1 * w + (j + 1) = r by omega] at ha
    obtain ⟨hrl, hra⟩ := ha
    have hbd := hx.bound i1 (j + 1)
    obtain ⟨e, he⟩ : ∃ e, ed x y i1 (j + 1) = e := ⟨_, rfl⟩
    rw [he] at hra hbd
    obtain ⟨g, hg⟩ : ∃ g, readAt x i v = g := ⟨_, rfl⟩
    have hgi : g ≤ INF := by rw [← hg, erd]; exact hc.2 v (by omega) (by omega)
    rw [hg] at rr q4
    have hst : stV x y i j 1 = min (g + e) INF := by rw [stV1, if_pos ⟨q2, q3, by rw [hv, Int.toNat_natCast, hg]; exact q4⟩, hv, Int.toNat_natCast, hg, hi1, he]
    rw [hst]
    refine SatD.regSeq hΓ follows [14] ?_
    simp [d55r3, q2, q3, ry, rc, rr, hvl, Column.enc, w1, w2, w3, w4, hra, hrl]
    refine ⟨⟨_, _, ⟨rfl, rfl⟩, by omega, by omega⟩, ?_⟩
    refine SatD.ret ?_
    simp [d55res]
  · simp only [decide_eq_false_iff_not] at h1
    refine SatD.regToS hΓ follows [(1, .v (.sl (intsT y))), (2, .v (.sl (intsT t))), (3, .v (ti w)), (4, .v (ti i)), (5, .v (ti j)), (6, .v (ti k)), (7, .v (.box [.sl (colsT x.columns), .sl (intsT x.insert), ti x.swap])), (71, .v (.bool (decide (k = 2 ∧ i < x.columns.length))))] ?_ ?_
    · by_cases q1 : k = 2
      · have q1' : (k : Int) = 2 := by omega
        by_cases q2 : i < x.columns.length
        · simp [d55r4, q1, q1', q2]
        · simp [d55r4, q1, q1', q2]
      · have q1' : ¬ (k : Int) = 2 := by omega
        simp [d55r4, q1, q1']
    refine SatD.cond rfl (fun h2 => ?_) (fun h2 => ?_)
    · simp only [decide_eq_true_eq] at h2
      obtain ⟨rfl, hp⟩ := h2
      have q2 := hp
      clear hp
      have rc := rowAt_cols q2
      have edl : delAt x i = (x.columns.getD i default).delete := rfl
      have hdl := hx.del i
      obtain ⟨⟨kd, rd, dl⟩, ec⟩ : ∃ c, x.columns.getD i default = c := ⟨_, rfl⟩
      rw [ec] at rc edl
      simp only at edl
      rw [edl] at hdl
      obtain ⟨i1, hi1⟩ : ∃ n, i + 1 = n := ⟨_, rfl⟩
      obtain ⟨p, hp⟩ : ∃ p, i1 * w = p := ⟨_, rfl⟩
      obtain ⟨q, hq⟩ : ∃ q, p + j = q := ⟨_, rfl⟩
      have hbig := tab_big (a := i1) (w := w) (b := j) (by omega) (by omega) (by omega)
      rw [hp] at hbig
      have w1 : IntKind.i64.wrap ((i : Int) + 1) = (i1 : Int) := by rw [← hi1]; exact_mod_cast wrapN (n := i + 1) (by omega)
      have w2 : IntKind.i64.wrap ((i1 : Int) * (w : Int)) = (p : Int) := by rw [← hp]; exact_mod_cast wrapN (n := i1 * w) (by omega)
      have w3 : IntKind.i64.wrap ((p : Int) + (j : Int)) = (q : Int) := by rw [← hq]; exact_mod_cast wrapN (n := p + j) (by omega)
      have hmul : i1 * w = i * w + w := by rw [← hi1, Nat.add_mul, Nat.one_mul]
      have ha := at_ i1 j (by omega) (by omega) (by omega)
      rw [show i1 * w + j = q by omega] at ha
      obtain ⟨hrl, hra⟩ := ha
      have hbd := hx.bound i1 j
      obtain ⟨e, he⟩ : ∃ e, ed x y i1 j = e := ⟨_, rfl⟩
      rw [he] at hra hbd
      have hst : stV x y i j 2 = min (dl + e) INF := by rw [stV2, if_pos q2, edl, hi1, he]
      rw [hst]
      refine SatD.regSeq hΓ follows [14] ?_
      simp [d55r5, q2, rc, Column.enc, w1, w2, w3, hra, hrl]
      refine ⟨⟨_, _, ⟨rfl, rfl⟩, by omega, by omega⟩, ?_⟩
      refine SatD.ret ?_
      simp [d55res]
    · simp only [decide_eq_false_iff_not] at h2
      refine SatD.regToS hΓ follows [(1, .v (.sl (intsT y))), (2, .v (.sl (intsT t))), (3, .v (ti w)), (4, .v (ti i)), (5, .v (ti j)), (6, .v (ti k)), (7, .v (.box [.sl (colsT x.columns), .sl (intsT x.insert), ti x.swap])), (95, .v (.bool (decide (k = 3 ∧ j < y.length))))] ?_ ?_
      · by_cases q1 : k = 3
        · have q1' : (k : Int) = 3 := by omega
          by_cases q2 : j < y.length
          · simp [d55r6, q1, q1', q2]
          · simp [d55r6, q1, q1', q2]
        · have q1' : ¬ (k : Int) = 3 := by omega
          simp [d55r6, q1, q1']
      refine SatD.cond rfl (fun h3 => ?_) (fun h3 => ?_)
      · simp only [decide_eq_true_eq] at h3
        obtain ⟨rfl, hp⟩ := h3
        have q3 := hp
        clear hp
        have ry := rowAt_ints q3
        have hyj := hx.y j q3
        have ey : y.getD j default = yAt y j := rfl
        rw [ey] at ry
        obtain ⟨v, hv⟩ : ∃ v : Nat, yAt y j = v := ⟨(yAt y j).toNat, by omega⟩
        rw [hv] at ry hyj
        have hvl : v < x.insert.length := by omega
        have ri := rowAt_ints hvl
        have ein : x.insert.getD v default = insAt x v := rfl
        rw [ein] at ri
        have hin := hx.ins v
        obtain ⟨g, hg⟩ : ∃ g, insAt x v = g := ⟨_, rfl⟩
        rw [hg] at ri hin
        obtain ⟨p, hp⟩ : ∃ p, i * w = p := ⟨_, rfl⟩
        obtain ⟨q, hq⟩ : ∃ q, p + j = q := ⟨_, rfl⟩
        obtain ⟨r, hr⟩ : ∃ r, q + 1 = r := ⟨_, rfl⟩
        have hbig := tab_big (a := i) (w := w) (b := j + 1) (by omega) (by omega) (by omega)
        rw [hp] at hbig
        have w2 : IntKind.i64.wrap ((i : Int) * (w : Int)) = (p : Int) := by rw [← hp]; exact_mod_cast wrapN (n := i * w) (by omega)
        have w3 : IntKind.i64.wrap ((p : Int) + (j : Int)) = (q : Int) := by rw [← hq]; exact_mod_cast wrapN (n := p + j) (by omega)
        have w4 : IntKind.i64.wrap ((q : Int) + 1) = (r : Int) := by rw [← hr]; exact_mod_cast wrapN (n := q + 1) (by omega)
        have ha := at_ i (j + 1) (by omega) (by omega) (by omega)
        rw [show i * w + (j + 1) = r by omega] at ha
        obtain ⟨hrl, hra⟩ := ha
        have hbd := hx.bound i (j + 1)
        obtain ⟨e, he⟩ : ∃ e, ed x y i (j + 1) = e := ⟨_, rfl⟩
        rw [he] at hra hbd
        have hst : stV x y i j 3 = min (g + e) INF := by rw [stV3, if_pos q3, hv, Int.toNat_natCast, hg, he]
        rw [hst]
        refine SatD.regSeq hΓ follows [14] ?_
        simp [d55r7, q3, ry, ri, hvl, w2, w3, w4, hra, hrl]
        refine ⟨⟨_, _, ⟨rfl, rfl⟩, by omega, by omega⟩, ?_⟩
        refine SatD.ret ?_
        simp [d55res]
      · simp only [decide_eq_false_iff_not] at h3
        obtain ⟨xt, hxt⟩ : ∃ xt, x.enc = xt := ⟨_, rfl⟩
        have hxe : T.agg [.sl (colsT x.columns), .sl (intsT x.insert), ti x.swap] = xt := hxt
        have hxd : decX xt = x := by rw [← hxt]; simp
        obtain ⟨sw, hsw⟩ : ∃ b, swapOk x i = b := ⟨_, rfl⟩
        have w1 : IntKind.i64.wrap ((j : Int) + 1) = ((j + 1 : Nat) : Int) := by exact_mod_cast wrapN (n := j + 1) (by omega)
        have w2 : IntKind.i64.wrap ((i : Int) + 1) = ((i + 1 : Nat) : Int) := by exact_mod_cast wrapN (n := i + 1) (by omega)
        obtain ⟨j1, hj1⟩ : ∃ k, j + 1 = k := ⟨_, rfl⟩
        obtain ⟨i1, hi1⟩ : ∃ k, i + 1 = k := ⟨_, rfl⟩
        rw [hj1] at w1
        rw [hi1] at w2
        have hpre : (∃ x : Input, xt = x.enc ∧ x.columns.length ≤ 1000000) := ⟨x, hxt.symm, by omega⟩
        refine SatD.regToS hΓ follows [(2, .v (.sl (intsT t))), (3, .v (ti w)), (4, .v (ti i)), (5, .v (ti j)), (7, .v (.box [.sl (colsT x.columns), .sl (intsT x.insert), ti x.swap])), (122, .v (.bool (decide (k = 4 ∧ swP x y i j))))] ?_ ?_
        · by_cases q1 : k = 4
          · have q1' : (k : Int) = 4 := by omega
            by_cases q2 : swapOk x i = true
            · have hql := swapOk_lt q2
              rw [hsw] at q2
              subst q2
              by_cases q3 : j1 < y.length
              · have ry1 := rowAt_ints (show j < y.length by omega)
                have ry2 := rowAt_ints q3
                have hi1l : i1 < x.columns.length := by omega
                have hil : i < x.columns.length := by omega
                have rc1 := rowAt_cols hil
                have rc2 := rowAt_cols hi1l
                have hiff : swP x y i j ↔ yAt y j = (x.columns.getD i1 default).kind ∧ yAt y j1 = (x.columns.getD i default).kind := by unfold swP; rw [hj1, hi1, hsw]; simp [q3]
                unfold yAt at hiff
                obtain ⟨⟨k1, rd1, d1⟩, e1⟩ : ∃ c, x.columns.getD i default = c := ⟨_, rfl⟩
                obtain ⟨⟨k2, rd2, d2⟩, e2⟩ : ∃ c, x.columns.getD i1 default = c := ⟨_, rfl⟩
                rw [e1] at rc1 hiff
                rw [e2] at rc2 hiff
                simp only at hiff
                obtain ⟨u1, hu1⟩ : ∃ u, y.getD j default = u := ⟨_, rfl⟩
                obtain ⟨u2, hu2⟩ : ∃ u, y.getD j1 default = u := ⟨_, rfl⟩
                rw [hu1] at ry1 hiff
                rw [hu2] at ry2 hiff
                have hjl : j < y.length := by omega
                by_cases q4 : u1 = k2
                · by_cases q5 : u2 = k1
                  · have q6 : swP x y i j := hiff.2 ⟨q4, q5⟩
                    simp [d55r8, q1, q1', hxe, hxd, hsw, w1, w2, q3, ry1, ry2, rc1, rc2, hi1l, hil, hjl, q4, q5, q6, Column.enc]
                    exact ⟨x, i, ⟨hxt.symm, rfl⟩, by omega, by omega⟩
                  · have q6 : ¬ swP x y i j := fun h => q5 (hiff.1 h).2
                    simp [d55r8, q1, q1', hxe, hxd, hsw, w1, w2, q3, ry1, ry2, rc1, rc2, hi1l, hil, hjl, q4, q5, q6, Column.enc]
                    exact ⟨x, i, ⟨hxt.symm, rfl⟩, by omega, by omega⟩
                · have q6 : ¬ swP x y i j := fun h => q4 (hiff.1 h).1
                  simp [d55r8, q1, q1', hxe, hxd, hsw, w1, w2, q3, ry1, rc1, rc2, hi1l, hil, hjl, q4, q6, Column.enc]
                  exact ⟨x, i, ⟨hxt.symm, rfl⟩, by omega, by omega⟩
              · have q6 : ¬ swP x y i j := fun h => q3 (by have := h.2.1; omega)
                simp [d55r8, q1, q1', hxe, hxd, hsw, w1, w2, q3, q6]
                exact ⟨x, i, ⟨hxt.symm, rfl⟩, by omega, by omega⟩
            · have q6 : ¬ swP x y i j := fun h => q2 h.1
              rw [hsw] at q2
              have q2' : sw = false := by simpa using q2
              simp [d55r8, q1, q1', hxe, hxd, hsw, q2', q6]
              exact ⟨x, i, ⟨hxt.symm, rfl⟩, by omega, by omega⟩
          · have q1' : ¬ (k : Int) = 4 := by omega
            simp [d55r8, q1, q1']
        refine SatD.cond rfl (fun h4 => ?_) (fun h4 => ?_)
        · simp only [decide_eq_true_eq] at h4
          obtain ⟨rfl, hp⟩ := h4
          have hsl := swapOk_lt hp.1
          have hjl := hp.2.1
          have hs := hx.swap
          obtain ⟨i2, hi2⟩ : ∃ n, i + 2 = n := ⟨_, rfl⟩
          obtain ⟨p, hpp⟩ : ∃ p, i2 * w = p := ⟨_, rfl⟩
          obtain ⟨q, hq⟩ : ∃ q, p + j = q := ⟨_, rfl⟩
          obtain ⟨r, hr⟩ : ∃ r, q + 2 = r := ⟨_, rfl⟩
          have hbig := tab_big (a := i2) (w := w) (b := j + 2) (by omega) (by omega) (by omega)
          rw [hpp] at hbig
          have w1' : IntKind.i64.wrap ((i : Int) + 2) = (i2 : Int) := by rw [← hi2]; exact_mod_cast wrapN (n := i + 2) (by omega)
          have w2' : IntKind.i64.wrap ((i2 : Int) * (w : Int)) = (p : Int) := by rw [← hpp]; exact_mod_cast wrapN (n := i2 * w) (by omega)
          have w3 : IntKind.i64.wrap ((p : Int) + (j : Int)) = (q : Int) := by rw [← hq]; exact_mod_cast wrapN (n := p + j) (by omega)
          have w4 : IntKind.i64.wrap ((q : Int) + 2) = (r : Int) := by rw [← hr]; exact_mod_cast wrapN (n := q + 2) (by omega)
          have hmul : i2 * w = i * w + 2 * w := by rw [← hi2, Nat.add_mul]
          have ha := at_ i2 (j + 2) (by omega) (by omega) (by omega)
          rw [show i2 * w + (j + 2) = r by omega] at ha
          obtain ⟨hrl, hra⟩ := ha
          have hbd := hx.bound i2 (j + 2)
          obtain ⟨e, he⟩ : ∃ e, ed x y i2 (j + 2) = e := ⟨_, rfl⟩
          rw [he] at hra hbd
          have hst : stV x y i j 4 = min (x.swap + e) INF := by rw [stV4, if_pos hp, hi2, he]
          rw [hst]
          refine SatD.regSeq hΓ follows [14] ?_
          simp [d55r9, w1', w2', w3, w4, hra, hrl]
          refine ⟨⟨_, _, ⟨rfl, rfl⟩, by omega, by omega⟩, ?_⟩
          refine SatD.ret ?_
          simp [d55res]
        · simp only [decide_eq_false_iff_not] at h4
          refine SatD.skip ?_
          simp
          refine SatD.regSeq hΓ follows [14] ?_
          simp [d55r10]
          refine SatD.ret ?_
          have hst : stV x y i j k = INF := by
            have hk : k = 1 ∨ k = 2 ∨ k = 3 ∨ k = 4 := by omega
            rcases hk with rfl | rfl | rfl | rfl
            · rw [stV1, if_neg fun e => h1 ⟨rfl, e⟩]
            · rw [stV2, if_neg fun e => h2 ⟨rfl, e⟩]
            · rw [stV3, if_neg fun e => h3 ⟨rfl, e⟩]
            · rw [stV4, if_neg fun e => h4 ⟨rfl, e⟩]
          simp [d55res, hst]
end Go.Proofs
/- The edit distance, the specification: its table. Conditions: none. -/
namespace Go.Proofs
open Go.DM Go.DM.Srt
set_option linter.unusedSimpArgs false
set_option linter.unusedVariables false

/-- The table, filled from place c on. -/
def tabL (x : Input) (y : List Int) (c : Nat) : List Int := (List.range ((x.columns.length + 1) * (y.length + 1))).map fun k => if c ≤ k then ed x y (k / (y.length + 1)) (k % (y.length + 1)) else 0
theorem tabL_len (x : Input) (y : List Int) (c : Nat) : (tabL x y c).length = (x.columns.length + 1) * (y.length + 1) := by simp [tabL]
theorem divmod {w a b : Nat} (hb : b < w) : (a * w + b) / w = a ∧ (a * w + b) % w = b := by
  rw [Nat.mul_comm, Nat.mul_add_div (by omega), Nat.mul_add_mod, Nat.div_eq_of_lt hb, Nat.mod_eq_of_lt hb]
  exact ⟨rfl, rfl⟩
theorem tabL_get {x : Input} {y : List Int} {c a b : Nat} (ha : a ≤ x.columns.length) (hb : b ≤ y.length) (hc : c ≤ a * (y.length + 1) + b) : (tabL x y c).getD (a * (y.length + 1) + b) default = ed x y a b := by
  have h1 := tab_lt (w := y.length + 1) ha (by omega : b < y.length + 1)
  have h2 := divmod (w := y.length + 1) (a := a) (by omega : b < y.length + 1)
  simp only [tabL, List.getD, List.getElem?_map, List.getElem?_range h1, Option.map_some, Option.getD_some, if_pos hc, h2.1, h2.2]
theorem tabL_ok (x : Input) (y : List Int) (i j : Nat) : tabOk x y (tabL x y (i * (y.length + 1) + j + 1)) (y.length + 1) i j :=
  ⟨tabL_len x y _, fun a b ha hb h => tabL_get ha hb (by omega)⟩
theorem tabL_set {x : Input} {y : List Int} {i j c : Nat} (hi : i ≤ x.columns.length) (hj : j ≤ y.length) (hc : c = i * (y.length + 1) + j) : (tabL x y (c + 1)).set c (ed x y i j) = tabL x y c := by
  have h1 := tab_lt (w := y.length + 1) hi (by omega : j < y.length + 1)
  have h2 := divmod (w := y.length + 1) (a := i) (by omega : j < y.length + 1)
  rw [← hc] at h1 h2
  apply List.ext_getElem
  · simp [tabL]
  · intro k k1 k2
    rw [List.getElem_set]
    simp only [tabL, List.getElem_map, List.getElem_range]
    split
    · rename_i e
      subst e
      rw [if_pos (Nat.le_refl _), h2.1, h2.2]
    · rename_i e
      by_cases hk : c ≤ k
      · rw [if_pos (by omega), if_pos hk]
      · rw [if_neg (by omega), if_neg hk]
theorem tabL_zero {x : Input} {y : List Int} {c : Nat} (hc : (x.columns.length + 1) * (y.length + 1) ≤ c) : intsT (tabL x y c) = List.replicate ((x.columns.length + 1) * (y.length + 1)) [ti 0] := by
  apply List.ext_getElem
  · simp [tabL]
  · intro k k1 k2
    simp only [intsT, List.length_map, tabL_len] at k1
    simp only [intsT, tabL, List.getElem_map, List.getElem_range, List.getElem_replicate]
    rw [if_neg (by omega)]
abbrev e55 : DM.Spec := specP (fun ts => ∃ (x : Input) (y t : List Int) (w i j k : Nat), ts = [x.enc, .sl (intsT y), .sl (intsT t), ti w, ti i, ti j, ti k] ∧ edOk x y ∧ w = y.length + 1 ∧ i ≤ x.columns.length ∧ j ≤ y.length ∧ (1 ≤ k ∧ k ≤ 4) ∧ tabOk x y t w i j)
  (fun | [x, .sl y, _, _, .int _ i, .int _ j, .int _ k] => ti (stV (decX x) (decInts y) i.toNat j.toNat k.toNat) | _ => .bool false) true
theorem ok42 : EnvOk Try.prog (envOf [(55, e55)]) := by
  refine EnvOk.cons EnvOk.nil ?_
  rintro ts ⟨x, y, t, w, i, j, k, rfl, h1, h2, h3, h4, ⟨h5, h6⟩, h7⟩
  exact ⟨by simpa using t55 x y t w i j k h1 h2 h3 h4 h5 h6 h7, fun _ => rfl⟩
set_option maxRecDepth 20000 in
set_option maxHeartbeats 8000000 in
theorem t42 (x : Input) (y : List Int) (hx : edOk x y) : CallsOk Try.prog 42 [x.enc, .sl (intsT y)] (.sl (intsT (tabL x y 0))) := by
  have hΓ := ok42
  have hI : INF = 1099511627776 := rfl
  have hn := hx.n
  have hm := hx.m
  refine c42.ok (by simp) (initSt_sat ?_)
  simp [Input.enc]
  refine SatD.regSeq hΓ follows [1, 2] ?_
  simp [d42r0]
  refine SatD.le (Le.keep (o := []) (l := [(1, .v (.sl (intsT y))), (2, .v (.box [.sl (colsT x.columns), .sl (intsT x.insert), ti x.swap]))]) (nxt' := 1200) ?_ ?_ ?_ ?_) ?_
  · simp
  · simp
  · simp
  · simp
  obtain ⟨n, hnn⟩ : ∃ n, x.columns.length = n := ⟨_, rfl⟩
  obtain ⟨w, hw⟩ : ∃ w, y.length + 1 = w := ⟨_, rfl⟩
  have w1 : IntKind.i64.wrap ((y.length : Int) + 1) = (w : Int) := by rw [← hw]; exact_mod_cast wrapN (n := y.length + 1) (by omega)
  refine SatD.regSeq hΓ follows [1, 2, 5, 6] ?_
  simp [d42r1, hnn, w1]
  obtain ⟨n1, hn1⟩ : ∃ n1, n + 1 = n1 := ⟨_, rfl⟩
  have w2 : IntKind.i64.wrap ((n : Int) + 1) = (n1 : Int) := by rw [← hn1]; exact_mod_cast wrapN (n := n + 1) (by omega)
  obtain ⟨L, hL⟩ : ∃ L, n1 * w = L := ⟨_, rfl⟩
  have hLb : L ≤ 1000000 := by rw [← hL]; exact Nat.le_trans (Nat.mul_le_mul (show n1 ≤ 61 by omega) (show w ≤ 1001 by omega)) (by omega)
  have w3 : IntKind.i64.wrap ((n1 : Int) * (w : Int)) = (L : Int) := by rw [← hL]; exact_mod_cast wrapN (n := n1 * w) (by omega)
  refine SatD.regSeq hΓ follows [1, 2, 5, 6, 7] ?_
  simp [d42r2, w2, w3, roomOk]
  refine ⟨⟨by omega, by omega⟩, ?_⟩
  have hz := tabL_zero (x := x) (y := y) (c := L) (by rw [hnn, hw, hn1, hL]; exact Nat.le_refl _)
  rw [hnn, hw, hn1, hL] at hz
  rw [← hz]
  refine SatD.seq ?_
  refine SatD.regSeq hΓ follows [1, 2, 5, 6, 7, 8] ?_
  simp [d42r3]
  refine SatD.block ?_
  refine SatD.loop (fun i : Nat => ⟨DM.look [(1, .v (.sl (intsT y))), (2, .v (.box [.sl (colsT x.columns), .sl (intsT x.insert), ti x.swap])), (5, .v (ti n)), (6, .v (ti w)), (7, .aref 1290 0), (8, .v (ti ((i : Int) - 1)))], obs [(1290, .arr 0 3 1 (intsT (tabL x y (i * w))))], 2000, 1000, []⟩)
    (fun i => i ≤ n1) (fun i => i) n1 (Le.keep ?_ ?_ ?_ ?_) (by simp) (fun i hi => ?_)
  · simp
  · simp
  · simp [hL]
  · simp
    omega
  refine SatD.seq ?_
  refine SatD.regSeq hΓ follows [1, 2, 5, 6, 7, 8, 25] ?_
  simp [d42r4]
  refine SatD.cond rfl (fun hcc => ?_) (fun hcc => ?_)
  · simp at hcc
    obtain ⟨q, rfl⟩ : ∃ q, i = q + 1 := ⟨i - 1, by omega⟩
    have hqn : q ≤ n := by omega
    refine SatD.skip ?_
    simp
    refine SatD.seq ?_
    refine SatD.block ?_
    refine SatD.regSeq hΓ follows [1, 2, 5, 6, 7, 8, 9] ?_
    simp [d42r5]
    refine SatD.block ?_
    refine SatD.loop (fun j : Nat => ⟨DM.look [(1, .v (.sl (intsT y))), (2, .v (.box [.sl (colsT x.columns), .sl (intsT x.insert), ti x.swap])), (5, .v (ti n)), (6, .v (ti w)), (7, .aref 1290 0), (8, .v (ti q)), (9, .v (ti ((j : Int) - 1)))], obs [(1290, .arr 0 3 1 (intsT (tabL x y (q * w + j))))], 3000, 1000, []⟩)
      (fun j => j ≤ w) (fun j => j) w (Le.keep ?_ ?_ ?_ ?_) (by simp) (fun j hj => ?_)
    · simp
    · simp
    · simp [Nat.add_mul]
    · simp
      omega
    refine SatD.seq ?_
    refine SatD.regSeq hΓ follows [1, 2, 5, 6, 7, 8, 9, 31] ?_
    simp [d42r6]
    refine SatD.cond rfl (fun hcc => ?_) (fun hcc => ?_)
    · simp at hcc
      obtain ⟨r, rfl⟩ : ∃ r, j = r + 1 := ⟨j - 1, by omega⟩
      have hrm : r ≤ y.length := by omega
      refine SatD.skip ?_
      simp
      refine SatD.seq ?_
      refine SatD.block ?_
      refine SatD.regSeq hΓ follows [1, 2, 5, 6, 7, 8, 9, 10] ?_
      simp [d42r7]
      refine SatD.seq ?_
      refine SatD.regToS hΓ follows [(1, .v (.sl (intsT y))), (2, .v (.box [.sl (colsT x.columns), .sl (intsT x.insert), ti x.swap])), (5, .v (ti n)), (6, .v (ti w)), (7, .aref 1290 0), (8, .v (ti q)), (9, .v (ti r)), (10, (.v (.int .i64 1099511627776))), (42, .v (.bool (decide (q = n ∧ r = y.length))))] ?_ ?_
      · by_cases q1 : q = n
        · by_cases q2 : r = y.length
          · simp [d42r8, q1, q2]
          · have q2' : ¬ (r : Int) = y.length := by omega
            simp [d42r8, q1, q2, q2']
        · have q1' : ¬ (q : Int) = n := by omega
          simp [d42r8, q1, q1']
      refine SatD.to ⟨DM.look [(1, .v (.sl (intsT y))), (2, .v (.box [.sl (colsT x.columns), .sl (intsT x.insert), ti x.swap])), (5, .v (ti n)), (6, .v (ti w)), (7, .aref 1290 0), (8, .v (ti q)), (9, .v (ti r)), (10, .v (ti (bst x y q r 0)))], obs [(1290, .arr 0 3 1 (intsT (tabL x y (q * w + (r + 1)))))], 3500, 1000, []⟩ ?_ ?_
      · refine SatD.cond rfl (fun hc8 => ?_) (fun hc8 => ?_)
        · simp at hc8
          refine SatD.reg hΓ follows [1, 2, 5, 6, 7, 8, 9, 10] ?_
          simp [d42r9]
          have hb0 := bst0 x y q r
          first | rw [if_pos (by omega)] at hb0 | rw [if_neg (by omega)] at hb0
          exact Le.keep (by simp) (by simp) (by simp) (by simp [hb0])
        · simp at hc8
          refine SatD.skip ?_
          simp
          have hb0 := bst0 x y q r
          first | rw [if_pos (by omega)] at hb0 | rw [if_neg (by omega)] at hb0
          exact Le.keep (by simp) (by simp) (by simp) (by simp [hb0])
      refine SatD.seq ?_
      refine SatD.regSeq hΓ follows [1, 2, 5, 6, 7, 8, 9, 10, 11] ?_
      simp [d42r10]
      refine SatD.block ?_
      refine SatD.loop (fun k : Nat => ⟨DM.look [(1, .v (.sl (intsT y))), (2, .v (.box [.sl (colsT x.columns), .sl (intsT x.insert), ti x.swap])), (5, .v (ti n)), (6, .v (ti w)), (7, .aref 1290 0), (8, .v (ti q)), (9, .v (ti r)), (10, .v (ti (bst x y q r k))), (11, .v (ti (k + 1 : Nat)))], obs [(1290, .arr 0 3 1 (intsT (tabL x y (q * w + (r + 1)))))], 4000, 1000, []⟩)
        (fun k => k ≤ 4) (fun k => 4 - k) 0 (Le.keep ?_ ?_ ?_ ?_) (by simp) (fun k hk => ?_)
      · simp
      · simp
      · simp
      · simp
      refine SatD.seq ?_
      refine SatD.regSeq hΓ follows [1, 2, 5, 6, 7, 8, 9, 10, 11, 44] ?_
      simp [d42r11]
      refine SatD.cond rfl (fun hcc => ?_) (fun hcc => ?_)
      · simp at hcc
        have hk4 : k < 4 := by omega
        refine SatD.skip ?_
        simp
        refine SatD.seq ?_
        refine SatD.block ?_
        obtain ⟨xt, hxt⟩ : ∃ xt, x.enc = xt := ⟨_, rfl⟩
        have hxe : T.agg [.sl (colsT x.columns), .sl (intsT x.insert), ti x.swap] = xt := hxt
        have hxd : decX xt = x := by rw [← hxt]; simp
        have hpre : ∃ (x2 : Input) (y2 t : List Int) (w2 i j k2 : Nat), (xt = x2.enc ∧ intsT y = intsT y2 ∧ intsT (tabL x y (q * w + (r + 1))) = intsT t ∧ (w : Int) = w2 ∧ (q : Int) = i ∧ (r : Int) = j ∧ (k : Int) + 1 = k2) ∧ edOk x2 y2 ∧ w2 = y2.length + 1 ∧ i ≤ x2.columns.length ∧ j ≤ y2.length ∧ (1 ≤ k2 ∧ k2 ≤ 4) ∧ tabOk x2 y2 t w2 i j := ⟨x, y, _, w, q, r, k + 1, ⟨hxt.symm, rfl, rfl, rfl, rfl, rfl, by simp⟩, hx, hw.symm, by omega, by omega, ⟨by omega, by omega⟩, by rw [← hw]; exact tabL_ok x y q r⟩
        refine SatD.reg hΓ follows [1, 2, 5, 6, 7, 8, 9, 10, 11] ?_
        simp [d42r12, hxe, hxd]
        refine ⟨hpre, ?_⟩
        refine SatD.reg hΓ follows [1, 2, 5, 6, 7, 8, 9, 10, 11] ?_
        simp [d42r13]
        rw [wrap_id (by omega)]
        refine ⟨k + 1, Le.keep ?_ ?_ ?_ ?_, by omega, by omega⟩
        · simp
        · simp
        · simp
        · simp [bst]
      · simp at hcc
        have hk4 : k = 4 := by omega
        subst hk4
        refine SatD.exit ?_
        simp
        rw [← ed_eq]
        obtain ⟨p, hp⟩ : ∃ p, q * w = p := ⟨_, rfl⟩
        rw [hp]
        obtain ⟨s, hs⟩ : ∃ s, p + r = s := ⟨_, rfl⟩
        have hsl : s < (x.columns.length + 1) * (y.length + 1) := by rw [← hs, ← hp, hw]; exact tab_lt (by omega) (by omega)
        have hsb : s ≤ 1000000 := by rw [hnn, hw, hn1, hL] at hsl; omega
        have w4 : IntKind.i64.wrap ((q : Int) * (w : Int)) = (p : Int) := by rw [← hp]; exact_mod_cast wrapN (n := q * w) (by omega)
        have w5 : IntKind.i64.wrap ((p : Int) + (r : Int)) = (s : Int) := by rw [← hs]; exact_mod_cast wrapN (n := p + r) (by omega)
        have hset := tabL_set (x := x) (y := y) (i := q) (j := r) (c := s) (by omega) hrm (by rw [hw, hp, hs])
        have hps : p + (r + 1) = s + 1 := by omega
        rw [hps]
        have hlen := tabL_len x y (s + 1)
        obtain ⟨T0, hT0⟩ : ∃ T0, (x.columns.length + 1) * (y.length + 1) = T0 := ⟨_, rfl⟩
        rw [hT0] at hsl hlen
        have hra := rowAt_ints (l := tabL x y (s + 1)) (y := s) (by rw [hlen]; exact hsl)
        refine SatD.reg hΓ follows [1, 2, 5, 6, 7, 8, 9] ?_
        simp [d42r14, hra, w4, w5, hlen, hsl, set_ints, hset]
        refine SatD.reg hΓ follows [1, 2, 5, 6, 7, 8, 9] ?_
        simp [d42r15]
        rw [wrap_id (by omega)]
        refine ⟨r, Le.keep ?_ ?_ ?_ ?_, by omega, by omega⟩
        · simp
        · simp
        · simp [hs, set_ints, hset]
        · simp
    · simp at hcc
      have hj0 : j = 0 := by omega
      subst hj0
      refine SatD.exit ?_
      simp
      refine SatD.reg hΓ follows [1, 2, 5, 6, 7, 8] ?_
      simp [d42r16]
      rw [wrap_id (by omega)]
      refine ⟨q, Le.keep ?_ ?_ ?_ ?_, by omega, by omega⟩
      · simp
      · simp
      · simp
      · simp
  · simp at hcc
    have hi0 : i = 0 := by omega
    subst hi0
    refine SatD.exit ?_
    simp
    refine SatD.regSeq hΓ follows [4] ?_
    simp [d42r17]
    refine SatD.ret ?_
    simp [d42res]

abbrev e41 : DM.Spec := specP (fun ts => ∃ (x : Input) (y : List Int), ts = [x.enc, .sl (intsT y)] ∧ belowP y x.insert.length ∧ y.length ≤ 1000000000) (fun _ => .bool true) true
abbrev e42 : DM.Spec := specP (fun ts => ∃ (x : Input) (y : List Int), ts = [x.enc, .sl (intsT y)] ∧ edOk x y) (fun | [x, .sl y] => .sl (intsT (tabL (decX x) (decInts y) 0)) | _ => .bool false) false
theorem ok24 : EnvOk Try.prog (envOf [(41, e41), (42, e42)]) := by
  refine EnvOk.cons (EnvOk.cons EnvOk.nil ?_) ?_
  · rintro ts ⟨x, y, rfl, h⟩
    exact ⟨by simpa using t42 x y h, fun h => by cases h⟩
  · rintro ts ⟨x, y, rfl, h1, h2⟩
    exact ⟨t41 x y h1 h2, fun _ => rfl⟩
theorem edOk.below {x : Input} {y : List Int} (h : edOk x y) : belowP y x.insert.length := by
  intro j hj
  have := h.y j hj
  unfold yAt at this
  omega
set_option maxRecDepth 20000 in
set_option maxHeartbeats 8000000 in
theorem t24 (x : Input) (y : List Int) (hx : edOk x y) : CallsOk Try.prog 24 [x.enc, .sl (intsT y)] (ti (ed x y 0 0)) := by
  have hΓ := ok24
  refine c24.ok (by simp) (initSt_sat ?_)
  simp [Input.enc]
  refine SatD.regSeq hΓ follows [1, 2] ?_
  simp [d24r0]
  refine SatD.le (Le.keep (o := []) (l := [(1, .v (.sl (intsT y))), (2, .v (.box [.sl (colsT x.columns), .sl (intsT x.insert), ti x.swap]))]) (nxt' := 1200) ?_ ?_ ?_ ?_) ?_
  · simp
  · simp
  · simp
  · simp
  refine SatD.seq ?_
  obtain ⟨xt, hxt⟩ : ∃ xt, x.enc = xt := ⟨_, rfl⟩
  have hxe : T.agg [.sl (colsT x.columns), .sl (intsT x.insert), ti x.swap] = xt := hxt
  have hxd : decX xt = x := by rw [← hxt]; simp
  have hpre : ∃ (x2 : Input) (y2 : List Int), (xt = x2.enc ∧ intsT y = intsT y2) ∧ belowP y2 x2.insert.length ∧ y2.length ≤ 1000000000 := ⟨x, y, ⟨hxt.symm, rfl⟩, hx.below, by have := hx.m; omega⟩
  refine SatD.regSeq hΓ follows [1, 2, 8] ?_
  simp [d24r1, hxe, hxd]
  refine ⟨hpre, ?_⟩
  refine SatD.cond rfl (fun hcc => by cases hcc) (fun hcc => ?_)
  refine SatD.skip ?_
  simp
  have hlen := tabL_len x y 0
  have hpos : 0 < (tabL x y 0).length := by rw [hlen]; exact Nat.mul_pos (by omega) (by omega)
  have hr0 := rowAt_ints hpos
  have hg := tabL_get (x := x) (y := y) (c := 0) (a := 0) (b := 0) (by omega) (by omega) (by omega)
  rw [Nat.zero_mul, Nat.zero_add] at hg
  rw [hg] at hr0
  have hpre2 : ∃ (x2 : Input) (y2 : List Int), (xt = x2.enc ∧ intsT y = intsT y2) ∧ edOk x2 y2 := ⟨x, y, ⟨hxt.symm, rfl⟩, hx⟩
  obtain ⟨TL, hTL⟩ : ∃ l, tabL x y 0 = l := ⟨_, rfl⟩
  rw [hTL] at hpos hr0
  obtain ⟨e, he⟩ : ∃ e, ed x y 0 0 = e := ⟨_, rfl⟩
  rw [he] at hr0
  rw [he]
  have hr0 : DM.rowAt (intsT TL) 0 = [ti e] := hr0
  refine SatD.regSeq hΓ follows [4] ?_
  simp [d24r3, hxe, hxd, hTL, hr0, hpos]
  refine ⟨hpre2, ?_⟩
  refine SatD.ret ?_
  simp [d24res]
end Go.Proofs
