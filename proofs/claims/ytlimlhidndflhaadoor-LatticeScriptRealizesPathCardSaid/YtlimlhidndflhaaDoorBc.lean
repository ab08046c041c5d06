/- The edit distance of an input and a label is the least cost of an accepting path (plain law). Conditions: none. -/
import Derived.Test.YtlimlhidndflhaaDoorBb
namespace Go.Proofs
open Go.DM Go.DM.Srt
set_option linter.unusedSimpArgs false
set_option linter.unusedVariables false

abbrev INF : Int := 1099511627776
def yAt (y : List Int) (j : Nat) : Int := y.getD j default
def rdP (x : Input) (y : List Int) (i j : Nat) : Prop := i < x.columns.length ∧ j < y.length ∧ 0 ≤ readAt x i (yAt y j).toNat
def swP (x : Input) (y : List Int) (i j : Nat) : Prop := swapOk x i = true ∧ j + 1 < y.length ∧ yAt y j = (x.columns.getD (i + 1) default).kind ∧ yAt y (j + 1) = (x.columns.getD i default).kind
instance (x : Input) (y : List Int) (i j : Nat) : Decidable (rdP x y i j) := by unfold rdP; infer_instance
instance (x : Input) (y : List Int) (i j : Nat) : Decidable (swP x y i j) := by unfold swP; infer_instance
theorem swapOk_lt {x : Input} {i : Nat} (h : swapOk x i = true) : i + 1 < x.columns.length := by
  unfold swapOk at h
  rw [decide_eq_true_eq] at h
  exact h.1
def delAt (x : Input) (i : Nat) : Int := (x.columns.getD i default).delete
def insAt (x : Input) (t : Nat) : Int := x.insert.getD t default
/-- The least cost of emitting y from the j-th terminal on from the tokens from the i-th on. -/
def ed (x : Input) (y : List Int) (i j : Nat) : Int :=
  let b0 := if i = x.columns.length ∧ j = y.length then 0 else INF
  let b1 := if h : rdP x y i j then min b0 (min (readAt x i (yAt y j).toNat + ed x y (i + 1) (j + 1)) INF) else b0
  let b2 := if h : i < x.columns.length then min b1 (min (delAt x i + ed x y (i + 1) j) INF) else b1
  let b3 := if h : j < y.length then min b2 (min (insAt x (yAt y j).toNat + ed x y i (j + 1)) INF) else b2
  if h : swP x y i j then min b3 (min (x.swap + ed x y (i + 2) (j + 2)) INF) else b3
termination_by (x.columns.length - i) + (y.length - j)
decreasing_by
  · have := h.1; omega
  · omega
  · omega
  · have := swapOk_lt h.1; have := h.2.1; omega
/-- Nothing costs less than nothing. -/
structure nnI (x : Input) : Prop where
  ins : ∀ t, 0 ≤ insAt x t
  del : ∀ i, 0 ≤ delAt x i
  swap : 0 ≤ x.swap
/-- A script from the i-th token on: what it emits, what it costs. -/
inductive Scr (x : Input) : Nat → List Int → Int → Prop
  | nil : Scr x x.columns.length [] 0
  | read {i : Nat} {t : Int} {y : List Int} {c : Int} : i < x.columns.length → 0 ≤ readAt x i t.toNat → Scr x (i + 1) y c → Scr x i (t :: y) (readAt x i t.toNat + c)
  | del {i : Nat} {y : List Int} {c : Int} : i < x.columns.length → Scr x (i + 1) y c → Scr x i y (delAt x i + c)
  | ins {i : Nat} {t : Int} {y : List Int} {c : Int} : Scr x i y c → Scr x i (t :: y) (insAt x t.toNat + c)
  | swap {i : Nat} {y : List Int} {c : Int} : swapOk x i = true → Scr x (i + 2) y c → Scr x i ((x.columns.getD (i + 1) default).kind :: (x.columns.getD i default).kind :: y) (x.swap + c)
theorem Scr.nn {x : Input} (h : nnI x) {i : Nat} {y : List Int} {c : Int} (s : Scr x i y c) : 0 ≤ c := by
  induction s with
  | nil => omega
  | read h1 h2 s ih => omega
  | @del i _ _ h1 s ih => have := h.del i; omega
  | @ins _ t _ _ s ih => have := h.ins t.toNat; omega
  | swap h1 s ih => have := h.swap; omega
theorem Scr.le {x : Input} {i : Nat} {y : List Int} {c : Int} (s : Scr x i y c) : i ≤ x.columns.length := by
  induction s with
  | nil => omega
  | read h1 h2 s ih => omega
  | del h1 s ih => omega
  | ins s ih => exact ih
  | swap h1 s ih => omega
/-! paths and scripts -/
theorem delC_self (x : Input) (i : Nat) : delC x i i = 0 := by
  unfold delC
  rw [List.drop_of_length_le (by simp; omega)]
  rfl
theorem delC_step (x : Input) {i m : Nat} (h : i ≤ m) (hm : m < x.columns.length) : delC x i (m + 1) = min (delC x i m + delAt x m) INF := delC_snoc x h hm
/-- Tokens are deleted first. -/
theorem Scr.dels {x : Input} (hd : delOk x.columns) {y : List Int} {c : Int} : ∀ (d i : Nat), i + d ≤ x.columns.length → delC x i (i + d) < INF → Scr x (i + d) y c → Scr x i y (delC x i (i + d) + c)
  | 0, i, _, _, s => by rw [Nat.add_zero] at s ⊢; rw [delC_self]; simpa using s
  | d + 1, i, hi, hlt, s => by
    have hn := (delC_bound hd i (i + d)).1
    have h1 := delC_step x (show i ≤ i + d by omega) (by omega)
    rw [Nat.add_assoc] at h1
    have hda : 0 ≤ delAt x (i + d) := by
      have := hd.2 (x.columns.getD (i + d) default) (by simp [List.getD, show i + d < x.columns.length by omega])
      exact this.1
    have h2 : delC x i (i + (d + 1)) = delC x i (i + d) + delAt x (i + d) := by omega
    have s2 : Scr x (i + d) y (delAt x (i + d) + c) := .del (by omega) s
    have := Scr.dels hd d i (by omega) (by omega) s2
    rw [h2, Int.add_assoc]
    exact this
theorem satA_lt {a b : Int} (ha : 0 ≤ a) (hb : 0 ≤ b) (h : satA a b < INF) : satA a b = a + b ∧ a < INF := by
  simp only [INF] at *
  unfold satA at h ⊢
  split at h
  · omega
  · rename_i h2; rw [if_neg h2]; omega
theorem fair_nn {x : Input} {k : Int} (h : fairP x k) : nnI x := by
  obtain ⟨g1, g2, g3, g4⟩ := fair_ok h
  refine ⟨fun t => ?_, fun i => ?_, g1.2.2.2.2.1⟩
  · unfold insAt
    by_cases ht : t < x.insert.length
    · have := fair_ins h ht; omega
    · rw [List.getD, List.getElem?_eq_none (by omega)]; exact Int.le_refl 0
  · unfold delAt
    by_cases hi : i < x.columns.length
    · exact (g1.1.2 (x.columns.getD i default) (by simp [List.getD, hi])).1
    · rw [List.getD, List.getElem?_eq_none (by omega)]; exact Int.le_refl 0
end Go.Proofs
