/- Locality: the arcs up to a token boundary are those of the tokens before it. Conditions: none. -/
import Derived.Test.YtljcdomdjgolkaaGreatDoorXaq
import Derived.Test.YtljcdomdjgolkaaGreatDoorXak
import Derived.Test.YtljcdomdjgolkaaGreatDoorXal
import Derived.Test.YtljcdomdjgolkaaGreatDoorXaf
import Derived.ChangeArms
import Derived.ChangeStays
import Derived.ChangeSame
import Derived.RowKit
import Derived.OpenShut
import Derived.Test.YtljcdomdjgolkaaGreatDoorXai
import Derived.Test.YtljcdomdjgolkaaGreatDoorXam
import Derived.Deep.Strs
import Derived.Lib.LaidTab
namespace Go.Proofs
open Go.DM Go.DM.Srt
set_option linter.unusedSimpArgs false
set_option linter.unusedVariables false

/-- The first k tokens. -/
def part (x : Input) (k : Nat) : Input := ⟨x.columns.take k, x.insert, x.swap⟩
/-- The candidates of the specification. -/
def refC (x : Input) : List Arc := ft (rI x) 0 (x.columns.length + 1) ++ ft (iI x) 0 (x.columns.length + 1)
theorem refArcs_iff (x : Input) (a : Arc) : a ∈ refArcs x ↔ ((refC x).filter (pK a)).foldl (stepK a) none = some a := by
  rw [mem_find (sorted_keys (refArcs_sorted x)) a]
  unfold refArcs
  rw [← putAll_append, putAll_find _ _ List.Pairwise.nil, fold_filter]
  rfl
end Go.Proofs
/- The arcs between two states depend on the tokens between them alone. Conditions: none. -/
namespace Go.Proofs
namespace Inc
open Go.DM
set_option linter.unusedSimpArgs false
set_option linter.unusedVariables false

/-- There is an arc with these ends, this terminal and this cost. -/
def HasArc (l : List Arc) (f t e c : Int) : Prop := ∃ a ∈ l, a.f = f ∧ a.t = t ∧ a.term = e ∧ a.cost = c
theorem pk2 (a b : Arc) : pK a b = true ↔ b.cost < 1099511627776 ∧ sameKey a b = true := by
  unfold pK
  rw [Bool.and_eq_true, decide_eq_true_eq]
  exact and_comm
theorem pK_iff (a b : Arc) : pK a b = true ↔ b.cost < 1099511627776 ∧ a.f = b.f ∧ a.t = b.t ∧ a.term = b.term := by
  rw [pk2, sameKey_iff]
theorem fold_min (k : Arc) : ∀ (cs : List Arc) (o : Option Arc), (∀ b, o = some b → pK k b = true) → match cs.foldl (stepK k) o with
    | none => o = none ∧ ∀ b ∈ cs, pK k b = false
    | some r => (o = some r ∨ r ∈ cs) ∧ pK k r = true ∧ (∀ b, o = some b → r.cost ≤ b.cost) ∧ ∀ b ∈ cs, pK k b = true → r.cost ≤ b.cost
  | [], o, ho => by
    cases o with
    | none => exact ⟨rfl, fun b h => by cases h⟩
    | some b => exact ⟨.inl rfl, ho b rfl, fun c h => by cases h; omega, fun b h => by cases h⟩
  | c :: cs, o, ho => by
    rw [List.foldl_cons]
    have ih := fold_min k cs (stepK k o c)
    have hs : ∀ b, stepK k o c = some b → (o = some b ∨ b = c) ∧ pK k b = true ∧ (∀ d, o = some d → b.cost ≤ d.cost) ∧ (pK k c = true → b.cost ≤ c.cost) := by
      intro b hb
      unfold stepK at hb
      split at hb
      · rename_i hc
        have hpc : pK k c = true := (pk2 k c).2 hc
        cases o with
        | none => simp only [Option.some.injEq] at hb; subst hb; exact ⟨.inr rfl, hpc, fun d h => (by cases h), fun _ => by omega⟩
        | some d =>
          simp only at hb
          split at hb
          · simp only [Option.some.injEq] at hb; subst hb; exact ⟨.inr rfl, hpc, fun d h => (by cases h; omega), fun _ => by omega⟩
          · simp only [Option.some.injEq] at hb; subst hb; exact ⟨.inl rfl, ho _ rfl, fun d h => (by cases h; omega), fun _ => by omega⟩
      · rename_i hc
        subst hb
        refine ⟨.inl rfl, ho b rfl, fun d h => by cases h; omega, fun h => ?_⟩
        exfalso
        exact hc ((pk2 k c).1 h)
    have ih := ih fun b hb => (hs b hb).2.1
    cases e : cs.foldl (stepK k) (stepK k o c) with
    | none =>
      rw [e] at ih
      simp only at ih ⊢
      obtain ⟨i1, i2⟩ := ih
      have h1 : o = none ∧ pK k c = false := by
        unfold stepK at i1
        split at i1
        · cases o with
          | none => cases i1
          | some d => simp only at i1; split at i1 <;> cases i1
        · rename_i hc
          refine ⟨i1, ?_⟩
          cases hp : pK k c with
          | false => rfl
          | true =>
            exfalso
            exact hc ((pk2 k c).1 hp)
      refine ⟨h1.1, fun b hb => ?_⟩
      rcases List.mem_cons.1 hb with rfl | hb
      · exact h1.2
      · exact i2 b hb
    | some r =>
      rw [e] at ih
      simp only at ih ⊢
      obtain ⟨i1, i2, i3, i4⟩ := ih
      refine ⟨?_, i2, ?_, ?_⟩
      · rcases i1 with i1 | i1
        · rcases (hs r i1).1 with h | rfl
          · exact .inl h
          · exact .inr (List.mem_cons_self ..)
        · exact .inr (List.mem_cons_of_mem _ i1)
      · intro b hb
        cases hst : stepK k o c with
        | none =>
          unfold stepK at hst
          rw [hb] at hst
          split at hst
          · simp only at hst; split at hst <;> cases hst
          · cases hst
        | some d => have := i3 d hst; have := (hs d hst).2.2.1 b hb; omega
      · intro b hb hp
        rcases List.mem_cons.1 hb with rfl | hb
        · cases hst : stepK k o b with
          | none =>
            unfold stepK at hst
            have hp' := (pk2 k b).1 hp
            rw [if_pos hp'] at hst
            cases o with
            | none => cases hst
            | some d => simp only at hst; split at hst <;> cases hst
          | some d => have := i3 d hst; have := (hs d hst).2.2.2 hp; omega
        · exact i4 b hb hp
/-- An arc of the lattice is a cheapest candidate. -/
theorem hasArc_iff (x : Input) (f t e c : Int) : HasArc (refArcs x) f t e c ↔ (HasArc (refC x) f t e c ∧ c < 1099511627776 ∧ ∀ c', HasArc (refC x) f t e c' → c' < 1099511627776 → c ≤ c') := by
  constructor
  · rintro ⟨a, ha, rfl, rfl, rfl, rfl⟩
    rw [refArcs_iff] at ha
    have hm := fold_min a ((refC x).filter (pK a)) none (fun b h => by cases h)
    rw [ha] at hm
    simp only at hm
    obtain ⟨h1, h2, _, h4⟩ := hm
    have h1 : a ∈ (refC x).filter (pK a) := h1.resolve_left (fun h => by cases h)
    refine ⟨⟨a, (List.mem_filter.1 h1).1, rfl, rfl, rfl, rfl⟩, ((pK_iff a a).1 h2).1, ?_⟩
    rintro c' ⟨b, hb, e1, e2, e3, rfl⟩ hc'
    have hp : pK a b = true := (pK_iff a b).2 ⟨hc', e1.symm, e2.symm, e3.symm⟩
    exact h4 b (List.mem_filter.2 ⟨hb, hp⟩) hp
  · rintro ⟨⟨b, hb, rfl, rfl, rfl, rfl⟩, hc, hmin⟩
    have hm := fold_min b ((refC x).filter (pK b)) none (fun b h => by cases h)
    have hpb : pK b b = true := (pK_iff b b).2 ⟨hc, rfl, rfl, rfl⟩
    cases e : ((refC x).filter (pK b)).foldl (stepK b) none with
    | none =>
      rw [e] at hm
      have := hm.2 b (List.mem_filter.2 ⟨hb, hpb⟩)
      rw [hpb] at this; cases this
    | some r =>
      rw [e] at hm
      simp only at hm
      obtain ⟨h1, h2, _, h4⟩ := hm
      have h1 : r ∈ (refC x).filter (pK b) := h1.resolve_left (fun h => by cases h)
      obtain ⟨r1, r2, r3, r4⟩ := (pK_iff b r).1 h2
      have hpe : pK r = pK b := by
        funext y
        unfold pK sameKey
        simp only [r2, r3, r4]
      have hse : stepK r = stepK b := by
        funext o y
        unfold stepK sameKey
        simp only [r2, r3, r4]
      refine ⟨r, ?_, r2.symm, r3.symm, r4.symm, ?_⟩
      · rw [refArcs_iff, hpe, hse]; exact e
      · have l1 := h4 b (List.mem_filter.2 ⟨hb, hpb⟩) hpb
        have l2 := hmin r.cost ⟨r, (List.mem_filter.1 h1).1, r2.symm, r3.symm, r4.symm, rfl⟩ r1
        omega
end Inc
end Go.Proofs
/- The same tokens in a window give the same arcs. Conditions: none. -/
namespace Go.Proofs
namespace Inc
open Go.DM
set_option linter.unusedSimpArgs false
set_option linter.unusedVariables false

def Cand (x : Input) (f t e c : Int) : Prop :=
  (∃ i m k : Nat, i ≤ m ∧ m < x.columns.length ∧ k < x.insert.length ∧ 0 ≤ readAt x m k ∧ f = 2 * i ∧ t = 2 * m + 2 ∧ e = k ∧ c = satA (delC x i m) (readAt x m k)) ∨
  (∃ i m : Nat, i ≤ m ∧ swapOk x m = true ∧ f = 2 * i ∧ t = 2 * m + 1 ∧ e = (x.columns.getD (m + 1) default).kind ∧ c = satA (delC x i m) x.swap) ∨
  (∃ i : Nat, swapOk x i = true ∧ f = 2 * i + 1 ∧ t = 2 * i + 4 ∧ e = (x.columns.getD i default).kind ∧ c = 0) ∨
  (∃ i m k : Nat, i ≤ m ∧ m ≤ x.columns.length ∧ k < x.insert.length ∧ f = 2 * i ∧ t = 2 * m ∧ e = k ∧ c = satA (delC x i m) (x.insert.getD k default))
theorem swapOk_lt {x : Input} {m : Nat} (h : swapOk x m = true) : m + 1 < x.columns.length := by
  unfold swapOk at h
  exact (of_decide_eq_true h).1
theorem mem_ft_of {α : Type} {f : Nat → List α} {i m k : Nat} {a : α} (h1 : i ≤ k) (h2 : k < m) (h : a ∈ f k) : a ∈ ft f i m := by
  unfold ft
  rw [List.mem_flatMap]
  exact ⟨k - i, by rw [List.mem_range]; omega, by rw [show i + (k - i) = k by omega]; exact h⟩
theorem cand_iff (x : Input) (f t e c : Int) : HasArc (refC x) f t e c ↔ Cand x f t e c := by
  constructor
  · rintro ⟨a, ha, rfl, rfl, rfl, rfl⟩
    unfold refC at ha
    rcases List.mem_append.1 ha with ha | ha
    · obtain ⟨i, _, hi, ha⟩ := mem_ft ha
      unfold rI at ha
      rcases List.mem_append.1 ha with ha | ha
      · obtain ⟨m, h1, h2, ha⟩ := mem_ft ha
        unfold rM at ha
        rcases List.mem_append.1 ha with ha | ha
        · obtain ⟨k, _, hk, ha⟩ := mem_ft ha
          unfold rA at ha
          split at ha
          · rename_i hr
            simp only [List.mem_singleton] at ha
            subst ha
            exact .inl ⟨i, m, k, h1, hr.1, hk, hr.2, rfl, rfl, rfl, rfl⟩
          · cases ha
        · unfold rS at ha
          split at ha
          · rename_i hr
            simp only [List.mem_singleton] at ha
            subst ha
            exact .inr (.inl ⟨i, m, h1, hr, rfl, rfl, rfl, rfl⟩)
          · cases ha
      · obtain ⟨hr, rfl⟩ := mem_rT ha
        exact .inr (.inr (.inl ⟨i, hr, rfl, rfl, rfl, rfl⟩))
    · obtain ⟨i, _, hi, ha⟩ := mem_ft ha
      unfold iI at ha
      obtain ⟨m, h1, h2, ha⟩ := mem_ft ha
      unfold iM at ha
      obtain ⟨k, _, hk, ha⟩ := mem_ft ha
      unfold iT at ha
      simp only [List.mem_singleton] at ha
      subst ha
      exact .inr (.inr (.inr ⟨i, m, k, h1, by omega, hk, rfl, rfl, rfl, rfl⟩))
  · unfold HasArc refC
    rintro (⟨i, m, k, h1, h2, h3, h4, rfl, rfl, rfl, rfl⟩ | ⟨i, m, h1, h2, rfl, rfl, rfl, rfl⟩ | ⟨i, h2, rfl, rfl, rfl, rfl⟩ | ⟨i, m, k, h1, h2, h3, rfl, rfl, rfl, rfl⟩)
    · refine ⟨⟨2 * i, 2 * m + 2, k, satA (delC x i m) (readAt x m k), dels (m - i) ++ [(1, (k : Int))]⟩, List.mem_append.2 (.inl ?_), rfl, rfl, rfl, rfl⟩
      refine mem_ft_of (k := i) (by omega) (by omega) ?_
      unfold rI
      refine List.mem_append.2 (.inl (mem_ft_of (k := m) h1 (by omega) ?_))
      unfold rM
      refine List.mem_append.2 (.inl (mem_ft_of (k := k) (by omega) h3 ?_))
      unfold rA
      rw [if_pos ⟨h2, h4⟩]
      simp
    · have := swapOk_lt h2
      refine ⟨⟨2 * i, 2 * m + 1, (x.columns.getD (m + 1) default).kind, satA (delC x i m) x.swap, dels (m - i) ++ [(4, 0)]⟩, List.mem_append.2 (.inl ?_), rfl, rfl, rfl, rfl⟩
      refine mem_ft_of (k := i) (by omega) (by omega) ?_
      unfold rI
      refine List.mem_append.2 (.inl (mem_ft_of (k := m) h1 (by omega) ?_))
      unfold rM
      refine List.mem_append.2 (.inr ?_)
      unfold rS
      rw [if_pos h2]
      simp
    · have := swapOk_lt h2
      refine ⟨⟨2 * i + 1, 2 * i + 4, (x.columns.getD i default).kind, 0, []⟩, List.mem_append.2 (.inl ?_), rfl, rfl, rfl, rfl⟩
      refine mem_ft_of (k := i) (by omega) (by omega) ?_
      unfold rI
      refine List.mem_append.2 (.inr ?_)
      unfold rT
      rw [if_pos h2]
      simp
    · refine ⟨⟨2 * i, 2 * m, k, satA (delC x i m) (x.insert.getD k default), dels (m - i) ++ [(3, (k : Int))]⟩, List.mem_append.2 (.inr ?_), rfl, rfl, rfl, rfl⟩
      refine mem_ft_of (k := i) (by omega) (by omega) ?_
      unfold iI
      refine mem_ft_of (k := m) h1 (by omega) ?_
      unfold iM
      refine mem_ft_of (k := k) (by omega) h3 ?_
      unfold iT
      simp

/-- w tokens of x from a on are those of x' from b on. -/
structure Win (x x' : Input) (a b w : Nat) : Prop where
  l1 : a + w ≤ x.columns.length
  l2 : b + w ≤ x'.columns.length
  ins : x.insert = x'.insert
  sw : x.swap = x'.swap
  col : ∀ j, j < w → x.columns.getD (a + j) default = x'.columns.getD (b + j) default
theorem Win.symm {x x' : Input} {a b w : Nat} (h : Win x x' a b w) : Win x' x b a w := ⟨h.l2, h.l1, h.ins.symm, h.sw.symm, fun j hj => (h.col j hj).symm⟩
theorem win_del {x x' : Input} {a b w : Nat} (h : Win x x' a b w) {p q : Nat} (hq : q ≤ w) : delC x (a + p) (a + q) = delC x' (b + p) (b + q) := by
  unfold delC
  congr 1
  apply List.ext_getElem?
  intro j
  simp only [List.getElem?_drop, List.getElem?_take]
  have h1 := h.l1
  have h2 := h.l2
  by_cases hj : p + j < q
  · rw [if_pos (by omega), if_pos (by omega)]
    have := h.col (p + j) (by omega)
    rw [List.getElem?_eq_getElem (by omega), List.getElem?_eq_getElem (by omega)]
    have e1 : x.columns.getD (a + (p + j)) default = x.columns[a + p + j]'(by omega) := by simp [List.getD, show a + (p + j) = a + p + j by omega, show a + p + j < x.columns.length by omega]
    have e2 : x'.columns.getD (b + (p + j)) default = x'.columns[b + p + j]'(by omega) := by simp [List.getD, show b + (p + j) = b + p + j by omega, show b + p + j < x'.columns.length by omega]
    rw [← e1, ← e2, this]
  · rw [if_neg (by omega), if_neg (by omega)]
/-- Does the window reach far enough for the state T? -/
def reach (x x' : Input) (a b w : Nat) (T : Int) : Prop := (T % 2 = 1 ∧ (T - 1) / 2 + 2 ≤ a + w) ∨ (T % 2 = 0 ∧ T / 2 ≤ a + w) ∨ (a + w = x.columns.length ∧ b + w = x'.columns.length)
theorem win_swap {x x' : Input} {a b w : Nat} (h : Win x x' a b w) {q : Nat} (hr : q + 2 ≤ w ∨ (a + w = x.columns.length ∧ b + w = x'.columns.length)) (hs : swapOk x (a + q) = true) :
    swapOk x' (b + q) = true ∧ (x.columns.getD (a + q) default).kind = (x'.columns.getD (b + q) default).kind ∧ (x.columns.getD (a + q + 1) default).kind = (x'.columns.getD (b + q + 1) default).kind := by
  have hlt := swapOk_lt hs
  have hw : q + 2 ≤ w := by
    rcases hr with hr | hr
    · exact hr
    · omega
  have c1 := h.col q (by omega)
  have c2 := h.col (q + 1) (by omega)
  rw [← Nat.add_assoc, ← Nat.add_assoc] at c2
  unfold swapOk at hs ⊢
  have hs := of_decide_eq_true hs
  rw [c1, c2, h.sw] at hs
  have h2 := h.l2
  exact ⟨decide_eq_true ⟨by omega, hs.2.1, hs.2.2.1, hs.2.2.2⟩, by rw [c1], by rw [c2]⟩
theorem cand_win {x x' : Input} {a b w : Nat} (h : Win x x' a b w) {T : Int} (hT : T ≤ 2 * (a + w : Nat)) (hr : reach x x' a b w T) {f t e c : Int} (hf : 2 * (a : Int) ≤ f) (ht : t ≤ T) (hb : T % 2 = 0 → t ≠ T - 1) (hc : Cand x f t e c) :
    Cand x' (f + 2 * b - 2 * a) (t + 2 * b - 2 * a) e c := by
  have h1 := h.l1
  have h2 := h.l2
  have sw : ∀ q : Nat, 2 * (q : Int) + 1 ≤ T - 2 * a → (T % 2 = 0 → 2 * (q : Int) + 1 ≠ T - 2 * a - 1) → q + 2 ≤ w ∨ (a + w = x.columns.length ∧ b + w = x'.columns.length) := by
    intro q k1 k2
    unfold reach at hr
    rcases hr with hr | hr | hr
    · left; omega
    · left
      have := k2 hr.1
      omega
    · exact .inr hr
  rcases hc with ⟨i, m, k, q1, q2, q3, q4, rfl, rfl, rfl, rfl⟩ | ⟨i, m, q1, q2, rfl, rfl, rfl, rfl⟩ | ⟨i, q2, rfl, rfl, rfl, rfl⟩ | ⟨i, m, k, q1, q2, q3, rfl, rfl, rfl, rfl⟩
  · obtain ⟨p, rfl⟩ : ∃ p, i = a + p := ⟨i - a, by omega⟩
    obtain ⟨q, rfl⟩ : ∃ q, m = a + q := ⟨m - a, by omega⟩
    have hc := h.col q (by omega)
    have hre : readAt x (a + q) k = readAt x' (b + q) k := by unfold readAt; rw [hc]
    exact .inl ⟨b + p, b + q, k, by omega, by omega, by rw [← h.ins]; exact q3, by rw [← hre]; exact q4, by omega, by omega, rfl, by rw [win_del h (by omega), hre]⟩
  · obtain ⟨p, rfl⟩ : ∃ p, i = a + p := ⟨i - a, by omega⟩
    obtain ⟨q, rfl⟩ : ∃ q, m = a + q := ⟨m - a, by omega⟩
    have hs := win_swap h (sw q (by omega) (fun e => by have := hb e; omega)) q2
    have := swapOk_lt q2
    exact .inr (.inl ⟨b + p, b + q, by omega, hs.1, by omega, by omega, hs.2.2, by rw [win_del h (by omega), h.sw]⟩)
  · obtain ⟨q, rfl⟩ : ∃ q, i = a + q := ⟨i - a, by omega⟩
    have hs := win_swap h (q := q) (.inl (by omega)) q2
    exact .inr (.inr (.inl ⟨b + q, hs.1, by omega, by omega, hs.2.1, rfl⟩))
  · obtain ⟨p, rfl⟩ : ∃ p, i = a + p := ⟨i - a, by omega⟩
    obtain ⟨q, rfl⟩ : ∃ q, m = a + q := ⟨m - a, by omega⟩
    exact .inr (.inr (.inr ⟨b + p, b + q, k, by omega, by omega, by rw [← h.ins]; exact q3, by omega, by omega, rfl, by rw [win_del h (by omega), h.ins]⟩))
theorem reach.symm {x x' : Input} {a b w : Nat} {T : Int} (h : reach x x' a b w T) : reach x' x b a w (T + 2 * b - 2 * a) := by
  unfold reach at h ⊢
  rcases h with h | h | h
  · left; omega
  · right; left; omega
  · right; right; exact ⟨h.2, h.1⟩
theorem arc_win {x x' : Input} {a b w : Nat} (h : Win x x' a b w) {T : Int} (hT : T ≤ 2 * (a + w : Nat)) (hr : reach x x' a b w T) {f t e c : Int} (hf : 2 * (a : Int) ≤ f) (ht : t ≤ T) (hb : T % 2 = 0 → t ≠ T - 1) :
    HasArc (refArcs x) f t e c ↔ HasArc (refArcs x') (f + 2 * b - 2 * a) (t + 2 * b - 2 * a) e c := by
  have key : ∀ {c : Int}, HasArc (refC x) f t e c ↔ HasArc (refC x') (f + 2 * b - 2 * a) (t + 2 * b - 2 * a) e c := by
    intro c
    rw [cand_iff, cand_iff]
    refine ⟨cand_win h hT hr hf ht hb, fun hc => ?_⟩
    have := cand_win h.symm (T := T + 2 * b - 2 * a) (by omega) hr.symm (f := f + 2 * b - 2 * a) (t := t + 2 * b - 2 * a) (by omega) (by omega) (by omega) hc
    rw [show f + 2 * b - 2 * a + 2 * a - 2 * b = f by omega, show t + 2 * b - 2 * a + 2 * a - 2 * b = t by omega] at this
    exact this
  rw [hasArc_iff, hasArc_iff, key]
  constructor
  · rintro ⟨h1, h2, h3⟩
    exact ⟨h1, h2, fun c' hc' => h3 c' (key.2 hc')⟩
  · rintro ⟨h1, h2, h3⟩
    exact ⟨h1, h2, fun c' hc' => h3 c' (key.1 hc')⟩
/-- Only one arc leaves an odd state, and it leads three states on. -/
theorem odd_arc {x : Input} {f t e c : Int} (h : HasArc (refArcs x) f t e c) (ho : f % 2 = 1) : t = f + 3 := by
  have := (cand_iff x f t e c).1 ((hasArc_iff x f t e c).1 h).1
  rcases this with ⟨i, m, k, _, _, _, _, rfl, _⟩ | ⟨i, m, _, _, rfl, _⟩ | ⟨i, _, rfl, rfl, _⟩ | ⟨i, m, k, _, _, _, rfl, _⟩ <;> omega
end Inc
end Go.Proofs
/- Cells of corresponding items of two charts. Conditions: none. -/
namespace Go.Proofs
namespace Inc
open Go.DM
set_option linter.unusedSimpArgs false
set_option linter.unusedVariables false

/-- The arcs of l from s to t correspond to those of l' from s' on. -/
structure Sim (l l' : Lattice) (s t s' : Nat) : Prop where
  arcs : ∀ f to e c : Int, s ≤ f → to ≤ t → ((t : Int) % 2 = 0 → to ≠ t - 1) → (HasArc l.arcs f to e c ↔ HasArc l'.arcs (f - s + s') (to - s + s') e c)
  gap : (t : Int) % 2 = 0 → ∀ to e c : Int, HasArc l.arcs (t - 1) to e c → t < to
theorem no_der {n : Normal} {l : Lattice} {h : Int} {p q k : Nat} {g : Int} {v : Val} (d : DerT n l h p q k g v) (ha : ∀ a ∈ l.arcs, a.f ≤ a.t) : (∀ to e c : Int, HasArc l.arcs p to e c → q < to) → p = q := by
  induction d with
  | empty _ _ _ => intro _; rfl
  | @term s t k a r x hk h1 hx h2 h3 h4 hv =>
    intro hno
    have := hno x.t x.term x.cost ⟨x, List.mem_of_getElem? hx, h2, rfl, rfl, rfl⟩
    omega
  | unary _ _ _ _ ih => exact ih
  | @binary s m t k k1 k2 g1 g2 r v w hk h1 hs ht d1 d2 hv ih1 ih2 =>
    intro hno
    have e : s = m := ih1 fun to e c h => by have := hno to e c h; omega
    subst e
    exact ih2 hno
theorem sim_der {n : Normal} {l l' : Lattice} {s t s' : Nat} (S : Sim l l' s t s') (ha : ∀ a ∈ l.arcs, a.f ≤ a.t) {h : Int} {p q k : Nat} {g : Int} {v : Val} (d : DerT n l h p q k g v) :
    s ≤ p → q ≤ t → ((t : Int) % 2 = 0 → (q : Int) ≠ t - 1) → ∃ g', DerT n l' h (p - s + s') (q - s + s') k g' v ∧ ((∀ r, n.rules[k]? = some r → r.kind ≠ 2) → g' = g - s + s') := by
  induction d with
  | @empty s0 k r hk h1 hv =>
    intro a1 a2 a3
    exact ⟨_, DerT.empty hk h1 hv, fun _ => by omega⟩
  | @term s0 t0 k a r x hk h1 hx h2 h3 h4 hv =>
    intro a1 a2 a3
    obtain ⟨x', hm, e1, e2, e3, e4⟩ := (S.arcs x.f x.t x.term x.cost (by omega) (by omega) (by rw [h3]; exact a3)).1 ⟨x, List.mem_of_getElem? hx, rfl, rfl, rfl, rfl⟩
    obtain ⟨a', ha'⟩ := List.mem_iff_getElem?.1 hm
    have hle := ha x (List.mem_of_getElem? hx)
    refine ⟨(a' : Int), ?_, fun hne => absurd h1 (hne r hk)⟩
    have := DerT.term (n := n) (l := l') (s := s0 - s + s') (t := t0 - s + s') hk h1 ha' (by omega) (by omega) (by rw [e3]; exact h4) (by rw [e4]; exact hv)
    rw [e4] at this
    exact this
  | @unary s0 t0 k k1 g1 r v hk h1 d hv ih =>
    intro a1 a2 a3
    obtain ⟨g', d', _⟩ := ih a1 a2 a3
    exact ⟨_, DerT.unary hk h1 d' hv, fun _ => by omega⟩
  | @binary s0 m t0 k k1 k2 g1 g2 r v w hk h1 hs ht d1 d2 hv ih1 ih2 =>
    intro a1 a2 a3
    have hm : (t : Int) % 2 = 0 → (m : Int) ≠ t - 1 := by
      intro e1 e2
      have e3 : t0 = t := by have := a3 e1; omega
      have := no_der d2 ha fun to e c hx => by
        rw [e2] at hx
        have := S.gap e1 to e c hx
        omega
      omega
    obtain ⟨g1', d1', _⟩ := ih1 a1 (by omega) hm
    obtain ⟨g2', d2', _⟩ := ih2 (by omega) a2 a3
    exact ⟨_, DerT.binary hk h1 (by omega) (by omega) d1' d2' hv, fun _ => by omega⟩
/-- Corresponding items have cells of the same value and rule, and corresponding arguments. -/
theorem good_sim {n : Normal} {l l' : Lattice} {s t s' t' : Nat} (hst : s ≤ t) (et : t' = t - s + s') (S : Sim l l' s t s') (S' : Sim l' l s' t' s) (ha : ∀ a ∈ l.arcs, a.f ≤ a.t) (ha' : ∀ a ∈ l'.arcs, a.f ≤ a.t) {h : Int} {x y : Cell}
    (hx : Good n l h s t x) (hy : Good n l' h s' t' y) : x.val = y.val ∧ x.rule = y.rule ∧ (∀ (k : Nat) r, n.rules[k]? = some r → x.rule = k → r.kind ≠ 2 → y.arg = x.arg - s + s') := by
  have fwd : ∀ {k : Nat} {g : Int} {v : Val}, DerT n l h s t k g v → ∃ g', DerT n l' h s' t' k g' v ∧ ((∀ r, n.rules[k]? = some r → r.kind ≠ 2) → g' = g - s + s') := by
    intro k g v d
    have := sim_der S ha d (Nat.le_refl _) (Nat.le_refl _) (by omega)
    rw [show s - s + s' = s' by omega, ← et] at this
    exact this
  have bwd : ∀ {k : Nat} {g : Int} {v : Val}, DerT n l' h s' t' k g v → ∃ g', DerT n l h s t k g' v ∧ ((∀ r, n.rules[k]? = some r → r.kind ≠ 2) → g' = g - s' + s) := by
    intro k g v d
    have := sim_der S' ha' d (Nat.le_refl _) (Nat.le_refl _) (by omega)
    rw [show s' - s' + s = s by omega, show t' - s' + s = t by omega] at this
    exact this
  have nofin : ∀ {v : Val}, v.cost < 1099511627776 → v.lt none4.val := fun h => .inl h
  rcases hx.top with ex | ⟨⟨k, ek, d⟩, hmin⟩
  · rcases hy.top with ey | ⟨⟨k', _, d'⟩, _⟩
    · subst ex ey
      refine ⟨rfl, rfl, fun k r _ h _ => ?_⟩
      simp only [none4] at h
      omega
    · obtain ⟨g', d2, _⟩ := bwd d'
      subst ex
      exact absurd (nofin d2.fin) (hx.least _ ⟨_, _, d2⟩)
  · obtain ⟨g', d2, hg⟩ := fwd d
    rcases hy.top with ey | ⟨⟨k', ek', d'⟩, hmin'⟩
    · subst ey
      exact absurd (nofin d2.fin) (hy.least _ ⟨_, _, d2⟩)
    · obtain ⟨g2', d2', hg'⟩ := bwd d'
      have hv : x.val = y.val := Val.antisymm (hy.least _ ⟨_, _, d2⟩) (hx.least _ ⟨_, _, d2'⟩)
      have m1 := hmin k' g2' (by rw [hv]; exact d2')
      have m2 := hmin' k g' (by rw [← hv]; exact d2)
      unfold lexLe at m1 m2
      have er : x.rule = y.rule := by omega
      refine ⟨hv, er, fun k0 r hk0 e0 hne => ?_⟩
      have ekk : k = k0 := by omega
      have ekk' : k' = k0 := by omega
      subst ekk ekk'
      have h1 := hg fun r' hr' => by rw [hk0] at hr'; cases hr'; exact hne
      have h2 := hg' fun r' hr' => by rw [hk0] at hr'; cases hr'; exact hne
      omega
theorem win_sim {x x' : Input} {a b w : Nat} (h : Win x x' a b w) {s t : Nat} (hs : 2 * a ≤ s) (hT : t ≤ 2 * (a + w)) (hr : reach x x' a b w t) : Sim (refBuildL x) (refBuildL x') s t (s + 2 * b - 2 * a) := by
  refine ⟨fun f to e c h1 h2 h3 => ?_, fun he to e c hx => ?_⟩
  · have := arc_win h (T := t) (by omega) hr (f := f) (t := to) (e := e) (c := c) (by omega) h2 h3
    rw [show f - (s : Int) + ((s + 2 * b - 2 * a : Nat) : Int) = f + 2 * b - 2 * a by omega, show to - (s : Int) + ((s + 2 * b - 2 * a : Nat) : Int) = to + 2 * b - 2 * a by omega]
    exact this
  · have := odd_arc hx (by omega)
    omega
theorem ref_ar {x : Input} (h : inpOk x) : ∀ a ∈ (refBuildL x).arcs, a.f ≤ a.t := by
  intro a ha
  have := (cand_iff x a.f a.t a.term a.cost).1 ((hasArc_iff x _ _ _ _).1 ⟨a, ha, rfl, rfl, rfl, rfl⟩).1
  rcases this with ⟨i, m, k, _, _, _, _, h1, h2, _⟩ | ⟨i, m, _, _, h1, h2, _⟩ | ⟨i, _, h1, h2, _⟩ | ⟨i, m, k, _, _, _, h1, h2, _⟩ <;> omega
/-- Two charts, of inputs with the same tokens in a window, at corresponding items. -/
theorem chart_win {n : Normal} {x x' : Input} {a b w : Nat} (hn : nOk n) (hx : inpOk x) (hx' : inpOk x') (h : Win x x' a b w) {hd : Int} {s t : Nat} (h0 : 0 ≤ hd) (h1 : hd < n.nonterms) (hst : s ≤ t) (hs : 2 * a ≤ s) (hT : t ≤ 2 * (a + w)) (hr : reach x x' a b w t) :
    ∃ k, k = t + 2 * b - 2 * a ∧ (atI (buildC n (refBuildL x)) hd s t).val = (atI (buildC n (refBuildL x')) hd (s + 2 * b - 2 * a : Nat) k).val ∧ (atI (buildC n (refBuildL x)) hd s t).rule = (atI (buildC n (refBuildL x')) hd (s + 2 * b - 2 * a : Nat) k).rule ∧
      (∀ (k0 : Nat) r, n.rules[k0]? = some r → (atI (buildC n (refBuildL x)) hd s t).rule = k0 → r.kind ≠ 2 → (atI (buildC n (refBuildL x')) hd (s + 2 * b - 2 * a : Nat) k).arg = (atI (buildC n (refBuildL x)) hd s t).arg + 2 * b - 2 * a) := by
  obtain ⟨t', ht'⟩ : ∃ t', t + 2 * b - 2 * a = t' := ⟨_, rfl⟩
  have l1 := h.l1
  have l2 := h.l2
  have S := win_sim h hs hT hr
  have S' := win_sim h.symm (s := s + 2 * b - 2 * a) (t := t') (by omega) (by omega) (by have := reach.symm hr; rw [show ((t : Int) + 2 * b - 2 * a) = (t' : Int) by omega] at this; exact this)
  rw [show s + 2 * b - 2 * a + 2 * a - 2 * b = s by omega] at S'
  have hs1 : (refBuildL x).states = 2 * x.columns.length + 1 := rfl
  have hs2 : (refBuildL x').states = 2 * x'.columns.length + 1 := rfl
  have g1 := build_good hn (ref_lOk hx) (ref_ar hx) h0 h1 hst (by omega)
  have g2 := build_good hn (ref_lOk hx') (ref_ar hx') h0 h1 (s := s + 2 * b - 2 * a) (t := t') (by omega) (by omega)
  obtain ⟨r1, r2, r3⟩ := good_sim hst (by omega) S S' (ref_ar hx) (ref_ar hx') g1 g2
  refine ⟨t', ht'.symm, r1, r2, fun k0 r hk he hne => ?_⟩
  have := r3 k0 r hk he hne
  omega
end Inc
end Go.Proofs
/- The error path of the update of nothing, and awake. Conditions: none. -/
namespace Go.Proofs
namespace Inc
open Go.DM
set_option linter.unusedSimpArgs false
set_option linter.unusedVariables false

abbrev s18 : DM.Spec := specP (fun ts => ∃ h f t cf co cn st, ts = [.agg [ti h, ti f, ti t], .agg [ti cf, ti co, ti cn], ti st] ∧ 1 ≤ st ∧ st ≤ 10000)
  (fun | [.agg [.int _ h, .int _ f, .int _ t], .agg [.int _ cf, .int _ co, .int _ cn], .int _ st] => .tup [.agg [ti (keepF h f t cf co cn st).h, ti (keepF h f t cf co cn st).f, ti (keepF h f t cf co cn st).t], .bool (keepF h f t cf co cn st).ok] | _ => .bool false) true
theorem ok18 {l : List (Nat × DM.Spec)} (h : EnvOk Tryz.prog (envOf l)) : EnvOk Tryz.prog (envOf ((18, s18) :: l)) := by
  refine EnvOk.cons h ?_
  rintro ts ⟨h, f, t, cf, co, cn, st, rfl, h1, h2⟩
  exact ⟨by simpa [KR.enc] using t18 h f t cf co cn st h1 h2, fun _ => rfl⟩
set_option maxRecDepth 20000 in
set_option maxHeartbeats 8000000 in
theorem t13e : CallsOk Tryz.prog 13 [.agg [ti 1, ti 1, ti 0, .sl []], .agg [ti 0, ti 0, .sl []], .agg [.sl [], .sl [[ti 1]], ti 0], .agg [ti 0, ti 0, ti 0]] (.tup [.agg [ti 0, ti 0, .sl []], ti 0, ti 13]) := by
  have hΓ := ok0
  refine c13.ok (by simp) (initSt_sat ?_)
  simp
  refine SatD.regSeq hΓ follows [4, 5, 6, 7, 8, 9, 10] ?_
  simp [d13r0]
  refine SatD.le (Le.keep (o := [(1009, .box [.v (ti 0), .v (ti 0), .nil0])]) (l := [(4, .v (.box [ti 1, ti 1, ti 0, .sl []])), (5, .v (.box [ti 0, ti 0, .sl []])), (6, .v (.box [.sl [], .sl [[ti 1]], ti 0])), (7, .v (.box [ti 0, ti 0, ti 0])), (8, .ptr 1009 0), (9, (.v (.int .i64 0))), (10, (.v (.int .i64 0)))]) (nxt' := 1200) ?_ ?_ ?_ ?_) ?_
  · simp
  · simp
  · simp
  · simp
  refine SatD.regSeq hΓ follows [4, 5, 6, 7, 8, 11] ?_
  simp [d13r1]
  refine SatD.seq ?_
  refine SatD.regToS hΓ follows [(4, .v (.box [ti 1, ti 1, ti 0, .sl []])), (5, .v (.box [ti 0, ti 0, .sl []])), (6, .v (.box [.sl [], .sl [[ti 1]], ti 0])), (7, .v (.box [ti 0, ti 0, ti 0])), (8, .ptr 1009 0), (11, .v (ti 0)), (53, .v (.bool false))] ?_ ?_
  · simp [d13r2]
  refine SatD.cond rfl (fun g => ?_) (fun g => ?_)
  · exact absurd g (by simp)
  · refine SatD.skip ?_
    simp
    refine SatD.seq ?_
    refine SatD.regToS hΓ follows [(4, .v (.box [ti 1, ti 1, ti 0, .sl []])), (5, .v (.box [ti 0, ti 0, .sl []])), (6, .v (.box [.sl [], .sl [[ti 1]], ti 0])), (7, .v (.box [ti 0, ti 0, ti 0])), (8, .ptr 1009 0), (95, .v (.bool true))] ?_ ?_
    · simp [d13r4]
    refine SatD.cond rfl (fun g2 => ?_) (fun g2 => ?_)
    · refine SatD.regSeq hΓ follows [8, 9, 10] ?_
      simp [d13r5]
      refine SatD.ret ?_
      simp [d13res]
    · refine SatD.skip ?_
      simp
      exact absurd g2 (by simp)

abbrev s13e : DM.Spec := specP (fun ts => ts = [.agg [ti 1, ti 1, ti 0, .sl []], .agg [ti 0, ti 0, .sl []], .agg [.sl [], .sl [[ti 1]], ti 0], .agg [ti 0, ti 0, ti 0]]) (fun _ => .tup [.agg [ti 0, ti 0, .sl []], ti 0, ti 13]) false
theorem okA : EnvOk Tryz.prog (envOf [(18, s18), (13, s13e)]) := by
  refine ok18 (EnvOk.cons EnvOk.nil ?_)
  rintro ts rfl
  exact ⟨t13e, fun h => by cases h⟩
theorem kA : keepF 2 0 2 1 1 1 7 = ⟨2, 0, 2, true⟩ := rfl
theorem kB : keepF 1 4 6 1 1 1 7 = ⟨1, 4, 6, true⟩ := rfl
theorem kC : keepF 0 2 4 1 1 1 7 = ⟨0, 0, 0, false⟩ := rfl
theorem kD : keepF 0 0 1 1 1 1 7 = ⟨0, 0, 0, false⟩ := rfl
theorem kE : keepF 0 4 6 1 0 2 7 = ⟨0, 8, 10, true⟩ := rfl
set_option maxRecDepth 20000 in
set_option maxHeartbeats 8000000 in
theorem t10 : CallsOk Tryz.prog 10 [] (.bool true) := by
  have hΓ := okA
  refine c10.ok (by simp) (initSt_sat ?_)
  simp
  refine SatD.regSeq hΓ follows [] ?_
  simp [d10r0]
  refine SatD.regSeq hΓ follows [1] ?_
  simp [d10r1]
  refine SatD.regSeq hΓ follows [1, 2, 3] ?_
  simp [d10r2, kA, kB, kC, kD, kE]
  refine ⟨⟨_, _, _, _, _, _, _, ⟨⟨rfl, rfl, rfl⟩, ⟨rfl, rfl, rfl⟩, rfl⟩, by omega, by omega⟩, ?_⟩
  try simp only [kA, kB, kC, kD, kE]
  refine SatD.regSeq hΓ follows [1, 2, 3, 4, 5] ?_
  simp [d10r3, kA, kB, kC, kD, kE]
  refine ⟨⟨_, _, _, _, _, _, _, ⟨⟨rfl, rfl, rfl⟩, ⟨rfl, rfl, rfl⟩, rfl⟩, by omega, by omega⟩, ?_⟩
  try simp only [kA, kB, kC, kD, kE]
  refine SatD.regSeq hΓ follows [1, 2, 3, 4, 5, 7] ?_
  simp [d10r4, kA, kB, kC, kD, kE]
  refine ⟨⟨_, _, _, _, _, _, _, ⟨⟨rfl, rfl, rfl⟩, ⟨rfl, rfl, rfl⟩, rfl⟩, by omega, by omega⟩, ?_⟩
  try simp only [kA, kB, kC, kD, kE]
  refine SatD.regSeq hΓ follows [2, 3, 4, 5, 7, 9] ?_
  simp [d10r5, kA, kB, kC, kD, kE]
  refine ⟨⟨_, _, _, _, _, _, _, ⟨⟨rfl, rfl, rfl⟩, ⟨rfl, rfl, rfl⟩, rfl⟩, by omega, by omega⟩, ?_⟩
  try simp only [kA, kB, kC, kD, kE]
  refine SatD.regSeq hΓ follows [2, 3, 4, 5, 7, 9, 10, 11] ?_
  simp [d10r6, kA, kB, kC, kD, kE]
  refine ⟨⟨_, _, _, _, _, _, _, ⟨⟨rfl, rfl, rfl⟩, ⟨rfl, rfl, rfl⟩, rfl⟩, by omega, by omega⟩, ?_⟩
  try simp only [kA, kB, kC, kD, kE]
  refine SatD.regSeq hΓ follows [2, 3, 4, 5, 7, 9, 10, 11, 14] ?_
  simp [d10r7]
  refine ⟨by first | rfl | simp [chunk], ?_⟩
  refine SatD.regSeq hΓ follows [0] ?_
  simp [d10r8]
  refine SatD.ret ?_
  simp [d10res]
end Inc
end Go.Proofs
/- What Keep keeps has the same value and the same rule in the chart after the change. Conditions: none. -/
namespace Go.Proofs
namespace Inc
open Go.DM
set_option linter.unusedSimpArgs false
set_option linter.unusedVariables false

theorem getD_app {α : Type} {d : α} {a b : List α} {i : Nat} : (a ++ b).getD i d = if i < a.length then a.getD i d else b.getD (i - a.length) d := by
  simp only [List.getD, List.getElem?_append]
  split <;> rfl
theorem after_len {x : Input} {fr od : Nat} {new : List Column} (h1 : fr ≤ x.columns.length) (h2 : od ≤ x.columns.length - fr) : (replaceX x fr od new).columns.length = x.columns.length - od + new.length := by
  simp only [replaceX, List.length_append, List.length_take, List.length_drop]
  omega
theorem after_left {x : Input} {fr od : Nat} {new : List Column} (h1 : fr ≤ x.columns.length) (h2 : od ≤ x.columns.length - fr) : Win x (replaceX x fr od new) 0 0 fr := by
  refine ⟨by omega, by rw [after_len h1 h2]; omega, rfl, rfl, fun j hj => ?_⟩
  simp only [replaceX, Nat.zero_add]
  rw [List.append_assoc, getD_app, if_pos (by rw [List.length_take]; omega)]
  simp only [List.getD, List.getElem?_take]
  rw [if_pos hj]
theorem after_right {x : Input} {fr od : Nat} {new : List Column} (h1 : fr ≤ x.columns.length) (h2 : od ≤ x.columns.length - fr) : Win x (replaceX x fr od new) (fr + od) (fr + new.length) (x.columns.length - (fr + od)) := by
  refine ⟨by omega, by rw [after_len h1 h2]; omega, rfl, rfl, fun j hj => ?_⟩
  simp only [replaceX]
  rw [getD_app, if_neg (by rw [List.length_append, List.length_take]; omega)]
  simp only [List.getD, List.getElem?_drop, List.length_append, List.length_take]
  rw [show fr + od + (fr + new.length + j - (min fr x.columns.length + new.length)) = fr + od + j by omega]
theorem keeps_law {n : Normal} {x : Input} {fr od : Nat} {new : List Column} {hd : Int} {f t : Nat} {k : KR} (hn : nOk n) (hx : inpOk x) (hx' : inpOk (replaceX x fr od new)) (h1 : fr ≤ x.columns.length) (h2 : od ≤ x.columns.length - fr) (h3 : hd < n.nonterms)
    (hk : keepF hd f t fr od new.length (2 * x.columns.length + 1) = k) (ho : k.ok = true) :
    k.t < 2 * ((replaceX x fr od new).columns.length : Int) + 1 ∧ 0 ≤ k.f ∧ (atI (buildC n (refBuildL x)) hd f t).val = (atI (buildC n (refBuildL (replaceX x fr od new))) k.h k.f k.t).val ∧
      (atI (buildC n (refBuildL x)) hd f t).rule = (atI (buildC n (refBuildL (replaceX x fr od new))) k.h k.f k.t).rule := by
  have hl := after_len (new := new) h1 h2
  unfold keepF at hk
  split at hk
  · subst hk; cases ho
  · rename_i hb
    unfold keepBad at hb
    split at hk
    · rename_i he
      subst hk
      unfold endS at he
      have ht : t ≤ 2 * fr := by split at he <;> omega
      have hr : reach x (replaceX x fr od new) 0 0 fr t := by
        unfold reach
        split at he
        · left; omega
        · right; left; omega
      obtain ⟨k', e, r1, r2, _⟩ := chart_win hn hx hx' (after_left h1 h2) (hd := hd) (s := f) (t := t) (by omega) h3 (by omega) (by omega) (by omega) hr
      rw [show f + 2 * 0 - 2 * 0 = f by omega] at r1 r2
      rw [show t + 2 * 0 - 2 * 0 = t by omega] at e
      subst e
      refine ⟨?_, ?_, r1, r2⟩ <;> simp only <;> omega
    · split at hk
      · rename_i he hf
        subst hk
        have hr : reach x (replaceX x fr od new) (fr + od) (fr + new.length) (x.columns.length - (fr + od)) t := by
          unfold reach
          right; right
          omega
        obtain ⟨k', e, r1, r2, _⟩ := chart_win hn hx hx' (after_right h1 h2) (hd := hd) (s := f) (t := t) (by omega) h3 (by omega) (by omega) (by omega) hr
        have e1 : ((f + 2 * (fr + new.length) - 2 * (fr + od) : Nat) : Int) = f + 2 * ((new.length : Int) - od) := by omega
        have e2 : (k' : Int) = t + 2 * ((new.length : Int) - od) := by omega
        rw [e1, e2] at r1 r2
        refine ⟨?_, ?_, r1, r2⟩ <;> simp only <;> omega
      · subst hk; cases ho
theorem may_facts {z : Ask} (h : mayP z) : nOk z.n ∧ inpOk z.x ∧ inpOk (afterA z) ∧ fitA z ∧ (z.x.columns.length : Int) ≤ 4 ∧ (z.new.length : Int) ≤ 3 := by
  obtain ⟨h1, h2, _⟩ := h
  have h3 : z.n.terms ≤ 5 := by omega
  have h4 : validN z.n := Classical.not_not.1 fun c => h1 (.inr (.inr (.inr (.inl c))))
  have h5 : inV z.x z.n.terms := Classical.not_not.1 fun c => h1 (.inr (.inr (.inr (.inr (.inr (.inr (.inl c)))))))
  exact ⟨h4.ok, inV_ok h5 h3, inV_ok h2 h3, ⟨by omega, by omega, by omega, by omega, by omega, by omega⟩, by omega, by omega⟩
theorem build_cOk {n : Normal} {l : Lattice} (hn : nOk n) (hl : lOk l) : cOk (buildC n l) := (buildL_ok hn hl).ok hn hl
end Inc
end Go.Proofs
/- The law IncrementKeeps, walked. Conditions: none. -/
namespace Go.Proofs
namespace Inc
open Go.DM
set_option linter.unusedSimpArgs false
set_option linter.unusedVariables false

abbrev s9 : DM.Spec := specP (fun ts => ∃ nt nn ns rules cols ins sw fr od new, ts = [.agg [ti nt, ti nn, ti ns, .sl (rulesT rules), .sl (colsT cols), .sl (intsT ins), ti sw, ti fr, ti od, .sl (colsT new)]] ∧ rules.length ≤ 9223372036854775807 ∧ ins.length ≤ 9223372036854775807)
  (fun | [.agg [.int _ nt, .int _ nn, .int _ ns, .sl r, .sl c, .sl i, .int _ s, .int _ fr, .int _ od, .sl nw]] => .bool (decide (mayP ⟨⟨nt, nn, ns, decRules r⟩, ⟨decCols c, decInts i, s⟩, fr, od, decCols nw⟩)) | _ => .bool false) true
abbrev s10 : DM.Spec := specP (fun ts => ts = []) (fun _ => .bool true) true
abbrev s15 : DM.Spec := specP (fun ts => ∃ nt nn ns rules cols ins sw fr od new, ts = [.agg [ti nt, ti nn, ti ns, .sl (rulesT rules), .sl (colsT cols), .sl (intsT ins), ti sw, ti fr, ti od, .sl (colsT new)]])
  (fun | [.agg [_, _, _, _, _, _, _, .int _ fr, .int _ od, .sl nw]] => .agg [ti fr, ti od, ti nw.length] | _ => .bool false) true
theorem ok9 {l : List (Nat × DM.Spec)} (h : EnvOk Tryz.prog (envOf l)) : EnvOk Tryz.prog (envOf ((9, s9) :: (10, s10) :: (15, s15) :: l)) := by
  refine EnvOk.cons (EnvOk.cons (EnvOk.cons h ?_) ?_) ?_
  · rintro ts ⟨nt, nn, ns, rules, cols, ins, sw, fr, od, new, rfl⟩
    exact ⟨by simpa [Ask.enc] using t15 ⟨⟨nt, nn, ns, rules⟩, ⟨cols, ins, sw⟩, fr, od, new⟩, fun _ => rfl⟩
  · rintro ts rfl
    exact ⟨t10, fun _ => rfl⟩
  · rintro ts ⟨nt, nn, ns, rules, cols, ins, sw, fr, od, new, rfl, h1, h2⟩
    exact ⟨by simpa [Ask.enc] using t9 ⟨⟨nt, nn, ns, rules⟩, ⟨cols, ins, sw⟩, fr, od, new⟩ ⟨h1, h2⟩, fun _ => rfl⟩
theorem okBase {l : List (Nat × DM.Spec)} (h : EnvOk Tryz.prog (envOf l)) : EnvOk Tryz.prog (envOf ((12, s12) :: (11, s11) :: (19, s19) :: l)) := by
  refine EnvOk.cons (EnvOk.cons (EnvOk.cons h ?_) ?_) ?_
  · rintro ts ⟨cn, cs, cl, h, f, t, rfl, h1⟩
    exact ⟨by simpa [Chart.enc, Cell.enc] using t19 ⟨cn, cs, cl⟩ h f t h1, fun _ => rfl⟩
  · rintro ts ⟨nt, nn, ns, rules, ls, arcs, fin, rfl, h1, h2⟩
    exact ⟨by simpa [Normal.enc, Lattice.enc, Chart.enc, buildC] using t11 ⟨nt, nn, ns, rules⟩ ⟨ls, arcs, fin⟩ h1 h2, fun h => by cases h⟩
  · rintro ts ⟨a, b, c, rfl, h1, h2, h3, h4⟩
    exact ⟨by simpa [Input.enc, Lattice.enc] using _root_.Go.Proofs.t14 ⟨a, b, c⟩ h1 h2 h3 h4, fun h => by cases h⟩
theorem okK : EnvOk Tryz.prog (envOf [(9, s9), (10, s10), (15, s15), (12, s12), (11, s11), (19, s19), (18, s18), (14, s14)]) := ok9 (okBase (ok18 (ok14 EnvOk.nil)))
set_option maxRecDepth 20000 in
set_option maxHeartbeats 8000000 in
theorem t5 (z : Ask) (at0 at1 sel : Nat) (hl : z.n.rules.length ≤ 9223372036854775807 ∧ z.x.insert.length ≤ 9223372036854775807) (b0 : at0 < 256) (b1 : at1 < 256) (b2 : sel < 256) :
    CallsOk Tryz.prog 5 [z.enc, .agg [.int .u8 at0, .int .u8 at1], .int .u8 sel] (.bool true) := by
  obtain ⟨⟨nt, nn, ns, rules⟩, ⟨cols, ins, sw⟩, fr, od, new⟩ := z
  obtain ⟨hl1, hl2⟩ := hl
  simp only at hl1 hl2
  have hΓ := okK
  refine c5.ok (by simp) (initSt_sat ?_)
  simp [Ask.enc]
  refine SatD.regSeq hΓ follows [2, 3, 4] ?_
  simp [d5r0]
  refine SatD.le (Le.keep (o := []) (l := [(2, .v (.int .u8 sel)), (3, .v (.box [ti nt, ti nn, ti ns, .sl (rulesT rules), .sl (colsT cols), .sl (intsT ins), ti sw, ti fr, ti od, .sl (colsT new)])), (4, .v (.box [.int .u8 at0, .int .u8 at1]))]) (nxt' := 1200) ?_ ?_ ?_ ?_) ?_
  · simp
  · simp
  · simp
  · simp
  refine SatD.seq ?_
  refine SatD.regSeq hΓ follows [2, 3, 4, 16] ?_
  simp [d5r1, and_assoc, hl1, hl2]
  refine SatD.cond rfl (fun g => ?_) (fun g => ?_)
  · refine SatD.regSeq hΓ follows [6] ?_
    simp [d5r2]
    refine SatD.ret ?_
    simp [d5res]
  · have g : mayP ⟨⟨nt, nn, ns, rules⟩, ⟨cols, ins, sw⟩, fr, od, new⟩ := by simpa using g
    obtain ⟨hn, hx, hx2, hfit, hc4, hn3⟩ := may_facts g
    have hfit0 := hfit
    obtain ⟨f1, f2, f3, f4, f5, f6⟩ := hfit
    simp only at f1 f2 f3 f4 f5 f6 hc4 hn3
    obtain ⟨fr, rfl⟩ := Int.eq_ofNat_of_zero_le f1
    obtain ⟨od, rfl⟩ := Int.eq_ofNat_of_zero_le f3
    refine SatD.skip ?_
    simp
    have hlo := ref_lOk hx
    have hlo2 := ref_lOk hx2
    have hcb := build_cOk hn hlo
    have hcb2 := build_cOk hn hlo2
    have hlaw := fun (hd : Int) (f t : Nat) (h3 : hd < nn) (k : KR) => keeps_law (n := ⟨nt, nn, ns, rules⟩) (x := ⟨cols, ins, sw⟩) (fr := fr) (od := od) (new := new) (hd := hd) (f := f) (t := t) (k := k) hn hx hx2 (by simpa using f2) (by simp only; omega) h3
    simp only [afterA] at hx2 hlo2 hcb2
    obtain ⟨A, hA⟩ : ∃ A, replaceX ⟨cols, ins, sw⟩ ((fr : Int).toNat) ((od : Int).toNat) new = A := ⟨_, rfl⟩
    rw [hA] at hx2 hlo2 hcb2
    simp only [Int.toNat_natCast] at hA
    rw [hA] at hlaw
    have hAl : (A.columns.length : Int) ≤ 7 := by
      have := after_len (x := ⟨cols, ins, sw⟩) (fr := fr) (od := od) (new := new) (by simpa using f2) (by simp only; omega)
      rw [hA] at this
      simp only at this
      omega
    obtain ⟨ac, ai, asw⟩ := A
    have hs0 : (refBuildL ⟨cols, ins, sw⟩).states = 2 * cols.length + 1 := rfl
    have hs1 : (refBuildL ⟨ac, ai, asw⟩).states = 2 * ac.length + 1 := rfl
    simp only [buildC] at hcb hcb2 hlaw
    obtain ⟨⟨l0, la0, lf0⟩, hL0⟩ : ∃ l, refBuildL ⟨cols, ins, sw⟩ = l := ⟨_, rfl⟩
    obtain ⟨⟨l1, la1, lf1⟩, hL1⟩ : ∃ l, refBuildL ⟨ac, ai, asw⟩ = l := ⟨_, rfl⟩
    rw [hL0] at hlo hcb hs0 hlaw
    rw [hL1] at hlo2 hcb2 hs1 hlaw
    simp only at hs0 hs1 hAl
    subst hs0 hs1
    obtain ⟨D0, hD0⟩ : ∃ D, buildL ⟨nt, nn, ns, rules⟩ ⟨2 * (cols.length : Int) + 1, la0, lf0⟩ = D := ⟨_, rfl⟩
    obtain ⟨D1, hD1⟩ : ∃ D, buildL ⟨nt, nn, ns, rules⟩ ⟨2 * (ac.length : Int) + 1, la1, lf1⟩ = D := ⟨_, rfl⟩
    simp only [hD0] at hcb hlaw
    simp only [hD1] at hcb2 hlaw
    refine SatD.regSeq hΓ follows [2, 3, 4, 7, 8] ?_
    simp [d5r3, and_assoc, hx, hn, hA, hx2, hL0, hL1, hlo, hlo2, hD0, hD1, f2, hc4]
    refine ⟨hfit0, ?_⟩
    refine SatD.le (Le.keep (o := [(1310, .box [.v (ti nn), .v (ti (2 * (cols.length : Int) + 1)), .v (.sl (cellsT D0))]), (1311, .box [.v (ti nn), .v (ti (2 * (ac.length : Int) + 1)), .v (.sl (cellsT D1))])]) (l := [(2, .v (.int .u8 sel)), (3, .v (.box [ti nt, ti nn, ti ns, .sl (rulesT rules), .sl (colsT cols), .sl (intsT ins), ti sw, ti fr, ti od, .sl (colsT new)])), (4, .v (.box [.int .u8 at0, .int .u8 at1])), (7, .ptr 1310 0), (8, .ptr 1311 0)]) (nxt' := 1490) ?_ ?_ ?_ ?_) ?_
    · simp
    · simp
    · simp
    · simp
    have hn1 : 1 ≤ nn := hn.1
    have hn2 : nn ≤ 1000 := hn.2.1
    obtain ⟨hd, hhd⟩ : ∃ hd : Int, (sel : Int) % nn = hd := ⟨_, rfl⟩
    have hd0 : 0 ≤ hd := by rw [← hhd]; exact Int.emod_nonneg _ (by omega)
    have hd1 : hd < nn := by rw [← hhd]; exact Int.emod_lt_of_pos _ (by omega)
    obtain ⟨f, hf⟩ : ∃ f : Nat, at0 % (2 * cols.length + 1) = f := ⟨_, rfl⟩
    have hf1 : f < 2 * cols.length + 1 := by rw [← hf]; exact Nat.mod_lt _ (by omega)
    have m1 : (sel : Int).tmod nn = hd := by rw [Int.tmod_eq_emod_of_nonneg (by omega), hhd]
    have hfi : (at0 : Int) % (2 * (cols.length : Int) + 1) = f := by rw [← hf, Int.natCast_emod]; simp
    have m2 : (at0 : Int).tmod (2 * (cols.length : Int) + 1) = f := by rw [Int.tmod_eq_emod_of_nonneg (by omega), hfi]
    have m3 : IntKind.i64.wrap (sel : Int) = sel := wrap_id (by omega)
    have m4 : IntKind.i64.wrap (at0 : Int) = at0 := wrap_id (by omega)
    have m5 : nn ≠ 0 := by omega
    have m6 : (2 * (cols.length : Int) + 1) ≠ 0 := by omega
    refine SatD.regSeq hΓ follows [3, 4, 7, 8, 9] ?_
    simp [d5r4, m1, m2, m3, m4, m5, m6]
    refine SatD.le (Le.keep (o := [(1500, .box [.v (ti hd), .v (ti f), .v (ti 0)]), (1310, .box [.v (ti nn), .v (ti (2 * (cols.length : Int) + 1)), .v (.sl (cellsT D0))]), (1311, .box [.v (ti nn), .v (ti (2 * (ac.length : Int) + 1)), .v (.sl (cellsT D1))])]) (l := [(3, .v (.box [ti nt, ti nn, ti ns, .sl (rulesT rules), .sl (colsT cols), .sl (intsT ins), ti sw, ti fr, ti od, .sl (colsT new)])), (4, .v (.box [.int .u8 at0, .int .u8 at1])), (7, .ptr 1310 0), (8, .ptr 1311 0), (9, .ptr 1500 0)]) (nxt' := 1600) ?_ ?_ ?_ ?_) ?_
    · simp
    · simp
    · simp
    · simp
    obtain ⟨d, hd'⟩ : ∃ d : Nat, at1 % (2 * cols.length + 1 - f) = d := ⟨_, rfl⟩
    have hd2 : d < 2 * cols.length + 1 - f := by rw [← hd']; exact Nat.mod_lt _ (by omega)
    have hdi : (at1 : Int) % (2 * (cols.length : Int) + 1 - f) = d := by
      rw [← hd', Int.natCast_emod]
      rw [show ((2 * cols.length + 1 - f : Nat) : Int) = 2 * (cols.length : Int) + 1 - f by omega]
    have n1 : IntKind.i64.wrap (2 * (cols.length : Int) + 1 - f) = 2 * (cols.length : Int) + 1 - f := wrap_id (by omega)
    have n2 : (2 * (cols.length : Int) + 1 - f) ≠ 0 := by omega
    have n3 : IntKind.i64.wrap (at1 : Int) = at1 := wrap_id (by omega)
    have n4 : (at1 : Int).tmod (2 * (cols.length : Int) + 1 - f) = d := by rw [Int.tmod_eq_emod_of_nonneg (by omega), hdi]
    obtain ⟨t, ht⟩ : ∃ t : Nat, f + d = t := ⟨_, rfl⟩
    have n5 : IntKind.i64.wrap ((f : Int) + d) = t := by rw [wrap_id (by omega)]; omega
    refine SatD.regSeq hΓ follows [3, 7, 8, 9] ?_
    simp [d5r5, n1, n2, n3, n4, n5]
    refine SatD.le (Le.keep (o := [(1500, .box [.v (ti hd), .v (ti f), .v (ti t)]), (1310, .box [.v (ti nn), .v (ti (2 * (cols.length : Int) + 1)), .v (.sl (cellsT D0))]), (1311, .box [.v (ti nn), .v (ti (2 * (ac.length : Int) + 1)), .v (.sl (cellsT D1))])]) (l := [(3, .v (.box [ti nt, ti nn, ti ns, .sl (rulesT rules), .sl (colsT cols), .sl (intsT ins), ti sw, ti fr, ti od, .sl (colsT new)])), (7, .ptr 1310 0), (8, .ptr 1311 0), (9, .ptr 1500 0)]) (nxt' := 1700) ?_ ?_ ?_ ?_) ?_
    · simp
    · simp
    · simp
    · simp
    refine SatD.regSeq hΓ follows [7, 8, 9, 10, 11] ?_
    simp [d5r6]
    refine ⟨⟨_, _, _, _, _, _, _, ⟨⟨rfl, rfl, rfl⟩, ⟨rfl, rfl, rfl⟩, rfl⟩, by omega, by omega⟩, ?_⟩
    have hkl := fun k => hlaw hd f t hd1 k
    obtain ⟨⟨kh, kf, kt, kok⟩, hkr⟩ : ∃ q, keepF hd f t fr od new.length (2 * (cols.length : Int) + 1) = q := ⟨_, rfl⟩
    have hkl := hkl _ hkr
    simp only [hkr]
    refine SatD.le (Le.keep (o := [(1711, .box [.v (ti kh), .v (ti kf), .v (ti kt)]), (1500, .box [.v (ti hd), .v (ti f), .v (ti t)]), (1310, .box [.v (ti nn), .v (ti (2 * (cols.length : Int) + 1)), .v (.sl (cellsT D0))]), (1311, .box [.v (ti nn), .v (ti (2 * (ac.length : Int) + 1)), .v (.sl (cellsT D1))])]) (l := [(7, .ptr 1310 0), (8, .ptr 1311 0), (9, .ptr 1500 0), (10, .ptr 1711 0), (11, .v (.bool kok))]) (nxt' := 1900) ?_ ?_ ?_ ?_) ?_
    · simp
    · simp
    · simp
    · simp
    refine SatD.seq ?_
    refine SatD.regSeq hΓ follows [7, 8, 9, 10, 66] ?_
    simp [d5r7]
    refine SatD.cond rfl (fun g2 => ?_) (fun g2 => ?_)
    · have g2 : kok = false := by simpa using g2
      refine SatD.regSeq hΓ follows [6] ?_
      simp [d5r8]
      refine SatD.ret ?_
      simp [d5res]
    · have g2 : kok = true := by simpa using g2
      subst g2
      obtain ⟨q1, q2, q3, q4⟩ := hkl rfl
      simp only at q1 q2 q3 q4
      refine SatD.skip ?_
      simp
      obtain ⟨⟨c0, z0, r0, a0⟩, hx0⟩ : ∃ x, atI ⟨nn, 2 * (cols.length : Int) + 1, D0⟩ hd f t = x := ⟨_, rfl⟩
      obtain ⟨⟨c1, z1, r1, a1⟩, hx1⟩ : ∃ x, atI ⟨nn, 2 * (ac.length : Int) + 1, D1⟩ kh kf kt = x := ⟨_, rfl⟩
      rw [hx0, hx1] at q3 q4
      simp only [Cell.val, Val.mk.injEq] at q3 q4
      obtain ⟨q3, q5⟩ := q3
      subst q3 q4 q5
      refine SatD.regSeq hΓ follows [8, 10, 12, 13] ?_
      simp [d5r9, and_assoc, hcb, hcb2, hx0, hx1]
      refine SatD.le (Le.keep (o := [(2015, .box [.v (ti c0), .v (ti z0), .v (ti r0), .v (ti a0)]), (2016, .box [.v (ti c0), .v (ti z0), .v (ti r0), .v (ti a1)]), (1711, .box [.v (ti kh), .v (ti kf), .v (ti kt)]), (1311, .box [.v (ti nn), .v (ti (2 * (ac.length : Int) + 1)), .v (.sl (cellsT D1))])]) (l := [(8, .ptr 1311 0), (10, .ptr 1711 0), (12, .ptr 2015 0), (13, .ptr 2016 0)]) (nxt' := 2200) ?_ ?_ ?_ ?_) ?_
      · simp
      · simp
      · simp
      · simp
      refine SatD.regSeq hΓ follows [6] ?_
      simp [d5r10, q1, q2]
      refine SatD.ret ?_
      simp [d5res]
end Inc
end Go.Proofs
/- The D-machine, part R: from the arguments as the claim reads them to trees, and back. Conditions: none. -/
namespace Go.DM
open Go.RowKit Go.ChangeShapes Go.WideShapes
set_option linter.unusedSimpArgs false
set_option linter.unusedVariables false
set_option linter.unusedSectionVars false
variable [Laid]

/-- The fields lie one behind another, their types are in the list. -/
def fieldsOk (P : Program) (L : List TypeId) : Nat → List Field → Nat → Bool
  | o, [], n => o == n
  | o, f :: fs, n => f.offset == o && L.contains f.type && fieldsOk P L (o + P.cellsOf f.type) fs n
/-- Types of plain data: numbers, truth values, texts, slices, structs and arrays of such; closed under parts. -/
def plainTy (P : Program) (L : List TypeId) (t : TypeId) : Bool :=
  match P.underlying t with
  | some .bool | some (.int _) | some .string => true
  | some (.slice e) => L.contains e && decide (0 < P.cellsOf e)
  | some (.struct fs) => fieldsOk P L 0 fs.toList (P.cellsOf t)
  | some (.array n e) => L.contains e && P.cellsOf t == n * P.cellsOf e
  | _ => false
def plainTys (P : Program) (L : List TypeId) : Bool := L.all (plainTy P L)

/-- Cells one part behind another. -/
def allTys (q : TypeId → List T → Prop) : List TypeId → List T → Prop
  | [], ts => ts = []
  | t :: tys, ts => ∃ a b, ts = a ++ b ∧ q t a ∧ allTys q tys b
/-- These cells are a value of that type. -/
def HasTy (P : Program) : Nat → TypeId → List T → Prop
  | 0, _, _ => False
  | n + 1, t, ts =>
    match P.underlying t with
    | some .bool => ∃ b, ts = [.bool b]
    | some (.int k) => ∃ x, ts = [.int k x] ∧ (Lit.int k x).wf = true
    | some .string => ∃ s, ts = [.str s] ∧ s.size ≤ maxLen
    | some (.slice e) => ∃ rows, ts = [.sl rows] ∧ rows.length ≤ maxLen ∧ ∀ r ∈ rows, HasTy P n e r
    | some (.struct fs) => allTys (HasTy P n) (fs.toList.map (·.type)) ts
    | some (.array k e) => allTys (HasTy P n) (List.replicate k e) ts
    | _ => False
/-- This tree is an argument of that type. -/
def HasArg (P : Program) (n : Nat) (t : TypeId) (x : T) : Prop :=
  match P.underlying t with
  | some (.struct _) | some (.array _ _) => ∃ ts, x = .agg ts ∧ HasTy P n t ts
  | _ => HasTy P n t [x]
def HasArgs (P : Program) : List TypeId → List T → Prop
  | [], xs => xs = []
  | t :: ts, xs => ∃ x xs', xs = x :: xs' ∧ (∃ n, HasArg P n t x) ∧ HasArgs P ts xs'

section
variable {P : Program} {L : List TypeId}

theorem plain_mem (h : plainTys P L = true) {t : TypeId} (ht : t ∈ L) : plainTy P L t = true := List.all_eq_true.1 h t ht

theorem fieldsOk_spec : ∀ (fs : List Field) (o n : Nat), fieldsOk P L o fs n = true → (∀ f ∈ fs, f.type ∈ L) ∧ n = o + (fs.map fun f => P.cellsOf f.type).sum ∧ ∀ (j : Nat) f, fs[j]? = some f → f.offset = o + ((fs.take j).map fun f => P.cellsOf f.type).sum
  | [], o, n, h => by
    simp only [fieldsOk, beq_iff_eq] at h
    exact ⟨fun _ h => (by cases h), by simp [h], fun j f h => by simp at h⟩
  | f :: fs, o, n, h => by
    simp only [fieldsOk, Bool.and_eq_true, beq_iff_eq, List.contains_iff_mem] at h
    obtain ⟨⟨h1, h2⟩, h3⟩ := h
    obtain ⟨k1, k2, k3⟩ := fieldsOk_spec fs _ n h3
    refine ⟨fun g hg => ?_, ?_, fun j g hg => ?_⟩
    · rcases List.mem_cons.1 hg with rfl | hg
      · exact h2
      · exact k1 g hg
    · rw [k2]; simp; omega
    · cases j with
      | zero => simp at hg; subst hg; simp [h1]
      | succ j =>
        have := k3 j g (by simpa using hg)
        rw [this]; simp; omega

theorem plain_kids (h : plainTys P L = true) : Kids P (· ∈ L) := by
  refine ⟨fun {t e} ht hu => ?_, fun {t e} ht hu => ?_, fun {t e n} ht hu => ?_, fun {t fs} ht hu => ?_, fun {t k e} ht hu => ?_⟩
  all_goals
    have := plain_mem h ht
    simp only [plainTy, hu] at this
  · cases this
  · simp only [Bool.and_eq_true, List.contains_iff_mem] at this; exact this.1
  · simp only [Bool.and_eq_true, List.contains_iff_mem, beq_iff_eq] at this; exact this
  · obtain ⟨k1, k2, k3⟩ := fieldsOk_spec _ _ _ this
    exact ⟨k1, by simpa using k2, fun j f hf => by simpa using k3 j f hf⟩
  · cases this

theorem fields_rel {H : Type} {enc : TypeId × Value → H} {w : World} {n : Nat} {sp : Nat → Bool} {held : Bool} {cs : List Value}
    (ih : ∀ t cs x, t ∈ L → DataW.trod enc P w 0 sp held n t cs = some x → ∃ ts, RelL w (fun _ => False) ts cs ∧ HasTy P n t ts) :
    ∀ (fs : List Field) (o N : Nat), fieldsOk P L o fs N = true → (∀ f ∈ fs, ∃ x, DataW.trod enc P w 0 sp held n f.type ((cs.drop f.offset).take (P.cellsOf f.type)) = some x) → cs.length = N →
      ∃ ts, RelL w (fun _ => False) ts (cs.drop o) ∧ allTys (HasTy P n) (fs.map (·.type)) ts
  | [], o, N, h, _, hl => by
    simp only [fieldsOk, beq_iff_eq] at h
    exact ⟨[], by simp only [RelL]; rw [List.drop_eq_nil_of_le (by omega)], rfl⟩
  | f :: fs, o, N, h, hx, hl => by
    simp only [fieldsOk, Bool.and_eq_true, beq_iff_eq, List.contains_iff_mem] at h
    obtain ⟨⟨h1, h2⟩, h3⟩ := h
    obtain ⟨x, hx0⟩ := hx f (List.mem_cons_self ..)
    obtain ⟨a, ha, hta⟩ := ih _ _ _ h2 hx0
    obtain ⟨b, hb, htb⟩ := fields_rel ih fs _ N h3 (fun g hg => hx g (List.mem_cons_of_mem _ hg)) hl
    refine ⟨a ++ b, ?_, a, b, rfl, hta, htb⟩
    have := RelL.append ha hb
    rw [h1, ← List.drop_drop, List.take_append_drop] at this
    exact this

theorem rep_rel {H : Type} {enc : TypeId × Value → H} {w : World} {n : Nat} {sp : Nat → Bool} {held : Bool} {cs : List Value} {e : TypeId} (he : e ∈ L)
    (ih : ∀ t cs x, t ∈ L → DataW.trod enc P w 0 sp held n t cs = some x → ∃ ts, RelL w (fun _ => False) ts cs ∧ HasTy P n t ts) :
    ∀ (k i : Nat), (∀ j, i ≤ j → j < i + k → ∃ x, DataW.trod enc P w 0 sp held n e ((cs.drop (j * P.cellsOf e)).take (P.cellsOf e)) = some x) → cs.length = (i + k) * P.cellsOf e →
      ∃ ts, RelL w (fun _ => False) ts (cs.drop (i * P.cellsOf e)) ∧ allTys (HasTy P n) (List.replicate k e) ts
  | 0, i, _, hl => by
    exact ⟨[], by simp only [RelL]; rw [List.drop_eq_nil_of_le (by rw [hl]; simp)], rfl⟩
  | k + 1, i, hx, hl => by
    obtain ⟨x, hx0⟩ := hx i (Nat.le_refl _) (by omega)
    obtain ⟨a, ha, hta⟩ := ih _ _ _ he hx0
    obtain ⟨b, hb, htb⟩ := rep_rel he ih k (i + 1) (fun j h1 h2 => hx j (by omega) (by omega)) (by rw [hl]; congr 1; omega)
    refine ⟨a ++ b, ?_, a, b, rfl, hta, htb⟩
    have := RelL.append ha hb
    rw [show (i + 1) * P.cellsOf e = i * P.cellsOf e + P.cellsOf e by rw [Nat.add_mul]; omega, ← List.drop_drop, List.take_append_drop] at this
    exact this

theorem choose_rows {α : Type} {q : Nat → α → Prop} : ∀ (n : Nat), (∀ i, i < n → ∃ x, q i x) → ∃ l : List α, l.length = n ∧ ∀ i x, l[i]? = some x → q i x
  | 0, _ => ⟨[], rfl, fun i x h => by simp at h⟩
  | n + 1, h => by
    obtain ⟨l, hl, hq⟩ := choose_rows n fun i hi => h i (by omega)
    obtain ⟨x, hx⟩ := h n (by omega)
    refine ⟨l ++ [x], by simp [hl], fun i y hy => ?_⟩
    by_cases hi : i < l.length
    · rw [List.getElem?_append_left hi] at hy; exact hq i y hy
    · rw [List.getElem?_append_right (by omega)] at hy
      have : i = n := by
        have := (List.getElem?_eq_some_iff.1 hy).1
        simp at this; omega
      subst this
      simp [hl] at hy
      subst hy; exact hx

theorem cells_get {w : World} {a : Addr} {n : Nat} {cs : List Value} (h : w.cells? 0 a n = some cs) : cs.length = n ∧ ∀ j v, cs[j]? = some v → w.cell? (a.add j) = some v := by
  simp only [World.cells?, Nat.zero_le, if_true] at h
  refine ⟨by simpa using mapM_some_length h, fun j v hj => ?_⟩
  have hlt : j < n := by
    have := (List.getElem?_eq_some_iff.1 hj).1
    have h2 := mapM_some_length h
    simp at h2; omega
  have := mapM_some_get h j j (by simp [hlt])
  rw [hj] at this
  simpa using this.symm
where
  mapM_some_length {α β : Type} {f : α → Option β} {l : List α} {r : List β} (h : l.mapM f = some r) : r.length = l.length := by
    induction l generalizing r with
    | nil => simp at h; simp [h]
    | cons x l ih =>
      simp only [List.mapM_cons, Option.pure_def, Option.bind_eq_bind, Option.bind_eq_some_iff, Option.some.injEq] at h
      obtain ⟨y, _, ys, hys, rfl⟩ := h
      simp [ih hys]
  mapM_some_get {α β : Type} {f : α → Option β} {l : List α} {r : List β} (h : l.mapM f = some r) (i : Nat) (x : α) (hx : l[i]? = some x) : r[i]? = f x := by
    induction l generalizing r i with
    | nil => simp at hx
    | cons y l ih =>
      simp only [List.mapM_cons, Option.pure_def, Option.bind_eq_bind, Option.bind_eq_some_iff, Option.some.injEq] at h
      obtain ⟨z, hz, ys, hys, rfl⟩ := h
      cases i with
      | zero => simp at hx; subst hx; simp [hz]
      | succ i => simpa using ih hys i (by simpa using hx)

theorem cell_in {w : World} {a : Addr} {v : Value} (h : w.cell? a = some v) : a.block < w.heap.size ∧ a.spot = none := by
  unfold World.cell? at h
  split at h
  · rename_i c e f hb
    split at h
    · cases h
    · rename_i hs
      exact ⟨(Array.getElem?_eq_some_iff.1 hb).1, by simpa using hs⟩
  · cases h

theorem add_zero (a : Addr) : a.add 0 = a := by simp [Addr.add]
theorem add_none (b o k : Nat) : (⟨b, o, none⟩ : Addr).add k = ⟨b, o + k, none⟩ := by
  unfold Addr.add
  by_cases h : k = 0 <;> simp [h]

theorem trod_rel {H : Type} {enc : TypeId × Value → H} {w : World} {sp : Nat → Bool} {held : Bool} (hL : plainTys P L = true) : ∀ (n : Nat) (t : TypeId) (cs : List Value) (x : DataW H × List MemPlace), t ∈ L →
    DataW.trod enc P w 0 sp held n t cs = some x → ∃ ts, RelL w (fun _ => False) ts cs ∧ HasTy P n t ts := by
  intro n
  induction n with
  | zero => intro t cs x _ h; simp [DataW.trod] at h
  | succ n ih =>
    intro t cs x ht h
    have hp := plain_mem hL ht
    have one : ∀ {y : T} {v : Value}, v.oneCell' = true → RelT w (fun _ => False) y v → RelL w (fun _ => False) [y] [v] := fun h1 h2 => by simp only [RelL]; exact ⟨_, _, rfl, h1, h2, rfl⟩
    unfold plainTy at hp
    split at hp
    · rename_i hu
      obtain ⟨b, rfl, rfl⟩ : ∃ b, cs = [.bool b] ∧ x = (.lit (.bool b), []) := by
        unfold DataW.trod at h
        rw [hu] at h
        split at h <;> simp_all
      exact ⟨[.bool b], one rfl (by simp [RelT]), by simp [HasTy, hu]⟩
    · rename_i k hu
      obtain ⟨m, rfl, rfl, hw⟩ := DataW.trod_int hu h
      exact ⟨[.int k m], one rfl (by simp [RelT]), by simp [HasTy, hu, hw]⟩
    · rename_i hu
      obtain ⟨s, rfl, rfl, hs⟩ := DataW.trod_string hu h
      exact ⟨[.str s], one rfl (by simp [RelT]), by simp [HasTy, hu, hs]⟩
    · rename_i e hu
      simp only [Bool.and_eq_true, List.contains_iff_mem, decide_eq_true_eq] at hp
      obtain ⟨he, hpos⟩ := hp
      rcases DataW.trod_slice hu h with ⟨rfl, rfl⟩ | ⟨a, len, cap, elems, rest, m, hm, rfl, rfl, _, hlc, hcap, hel, hget, _, _⟩
      · exact ⟨[.sl []], one rfl (by simp [RelT]), by simp [HasTy, hu]⟩
      · obtain rfl : n = m := by omega
        have hrow : ∀ i, i < len → ∃ r : List T, (∃ cs', w.cells? 0 (a.add (i * P.cellsOf e)) (P.cellsOf e) = some cs' ∧ RelL w (fun _ => False) r cs') ∧ HasTy P n e r := by
          intro i hi
          have h1 := hget i hi
          have h2 : ∃ y, elems[i]? = some y := ⟨elems[i], List.getElem?_eq_getElem (by omega)⟩
          obtain ⟨y, hy⟩ := h2
          rw [hy] at h1
          obtain ⟨cs', h3, h4⟩ := Option.bind_eq_some_iff.1 h1
          obtain ⟨ts, h5, h6⟩ := ih e cs' y he h4
          exact ⟨ts, ⟨cs', h3, h5⟩, h6⟩
        obtain ⟨rows, hlen, hq⟩ := choose_rows len hrow
        refine ⟨[.sl rows], ?_, ?_⟩
        · simp only [RelL]
          refine ⟨_, [], rfl, rfl, ?_, rfl⟩
          simp only [RelT]
          cases rows with
          | nil =>
            simp at hlen
            subst hlen
            exact .inl ⟨rfl, _, _, rfl⟩
          | cons r0 rows =>
            right
            obtain ⟨⟨cs0, h3, h4⟩, _⟩ := hq 0 r0 rfl
            obtain ⟨h5, h6⟩ := cells_get h3
            have hc0 : ∃ v, cs0[0]? = some v := ⟨cs0[0], List.getElem?_eq_getElem (by omega)⟩
            obtain ⟨v0, hv0⟩ := hc0
            have h60 := h6 0 v0 hv0
            simp only [Nat.zero_mul, add_zero] at h60
            obtain ⟨hb, hs⟩ := cell_in h60
            obtain ⟨b, o, sp'⟩ := a
            simp only at hb hs
            subst hs
            have hat : ∀ i r, (r0 :: rows)[i]? = some r → r.length = P.cellsOf e ∧ RelAt w (fun _ => False) b (o + i * P.cellsOf e) r := by
              intro i r hr
              obtain ⟨⟨cs', h3, h4⟩, _⟩ := hq i r hr
              obtain ⟨h5, h6⟩ := cells_get h3
              refine ⟨by rw [← RelL.length h4, h5], RelAt.of_relL h4 fun j v hj => ?_⟩
              have h7 := h6 j v hj
              rw [add_none, add_none] at h7
              exact h7
            exact ⟨b, o, cap, P.cellsOf e, by rw [hlen], hb, fun h => h, by omega, RelRows.of_rows _ _ hat⟩
        · simp only [HasTy, hu]
          refine ⟨rows, rfl, by omega, fun r hr => ?_⟩
          obtain ⟨i, hi⟩ := List.getElem?_of_mem hr
          exact (hq i r hi).2
    · rename_i fs hu
      obtain ⟨xs, m, hm, rfl, hl, hxl, hf⟩ := DataW.trod_struct hu h
      obtain rfl : n = m := by omega
      obtain ⟨ts, h1, h2⟩ := fields_rel (cs := cs) ih fs.toList 0 _ hp (fun f hfm => by
        obtain ⟨i, hi⟩ := List.getElem?_of_mem hfm
        have hi' : fs[i]? = some f := by simpa using hi
        have := hf i f hi'
        have hlt : i < xs.length := by rw [hxl]; exact (Array.getElem?_eq_some_iff.1 hi').1
        rw [List.getElem?_eq_getElem hlt] at this
        exact ⟨_, this⟩) hl
      exact ⟨ts, by simpa using h1, by simpa [HasTy, hu] using h2⟩
    · rename_i k e hu
      simp only [Bool.and_eq_true, List.contains_iff_mem, beq_iff_eq] at hp
      have key : cs.length = P.cellsOf t ∧ ∀ i, i < k → ∃ y, DataW.trod enc P w 0 sp held n e ((cs.drop (i * P.cellsOf e)).take (P.cellsOf e)) = some y := by
        unfold DataW.trod at h
        rw [hu] at h
        split at h <;> simp_all
        obtain ⟨hl, xs, hmm, _⟩ := h
        intro i hi
        have := cells_get.mapM_some_get hmm i i (by simp [hi])
        have hlt : i < xs.length := by rw [cells_get.mapM_some_length hmm]; simp [hi]
        rw [List.getElem?_eq_getElem hlt] at this
        exact ⟨_, _, this.symm⟩
      obtain ⟨ts, h1, h2⟩ := rep_rel (cs := cs) hp.1 ih k 0 (fun j _ hj => key.2 j (by omega)) (by rw [key.1, hp.2]; simp)
      exact ⟨ts, by simpa using h1, by simpa [HasTy, hu] using h2⟩
    · cases hp

theorem arg_rel {H : Type} {enc : TypeId × Value → H} {w : World} {sp : Nat → Bool} {held : Bool} (hL : plainTys P L = true) {t : TypeId} (ht : t ∈ L) {v : Value} {base : Nat} (hv : Value.okWide P w .any base t v) {d : DataW H} {ps : List MemPlace}
    (h : DataW.Trod enc P w 0 sp held t v d ps) : ∃ x, RelT w (fun _ => False) x v ∧ ∃ n, HasArg P n t x := by
  obtain ⟨n, h⟩ := h
  obtain ⟨ts, h1, h2⟩ := trod_rel hL n t _ _ ht h
  have hp := plain_mem hL ht
  have single : (∀ cs, v ≠ .agg cs) → ∃ x, ts = [x] ∧ RelT w (fun _ => False) x v := by
    intro hne
    have hc : v.cells.toList = [v] := by cases v <;> first | rfl | exact absurd rfl (hne _)
    rw [hc] at h1
    cases ts with
    | nil => simp only [RelL] at h1; cases h1
    | cons x xs =>
      simp only [RelL] at h1
      obtain ⟨_, _, e, _, hr, hrs⟩ := h1
      simp only [List.cons.injEq] at e
      obtain ⟨rfl, rfl⟩ := e
      have := RelL.length hrs
      simp at this
      have e : xs = [] := List.eq_nil_of_length_eq_zero this.symm
      exact ⟨x, by rw [e], hr⟩
  have agg : (∃ cs, v = .agg cs) → ∃ x, x = T.agg ts ∧ RelT w (fun _ => False) x v := by
    rintro ⟨cs, rfl⟩
    exact ⟨_, rfl, by simp only [RelT]; exact ⟨cs, rfl, by simpa [Value.cells] using h1⟩⟩
  unfold plainTy at hp
  split at hp
  · rename_i hu
    obtain ⟨b, rfl⟩ := okWide_bool hu hv
    obtain ⟨x, rfl, hr⟩ := single (fun _ h => by cases h)
    exact ⟨x, hr, n, by simp only [HasArg, hu]; exact h2⟩
  · rename_i k hu
    obtain ⟨b, rfl⟩ := okWide_int hu hv
    obtain ⟨x, rfl, hr⟩ := single (fun _ h => by cases h)
    exact ⟨x, hr, n, by simp only [HasArg, hu]; exact h2⟩
  · rename_i hu
    obtain ⟨b, rfl⟩ := okWide_string hu hv
    obtain ⟨x, rfl, hr⟩ := single (fun _ h => by cases h)
    exact ⟨x, hr, n, by simp only [HasArg, hu]; exact h2⟩
  · rename_i e hu
    obtain ⟨a, l, c, rfl⟩ := okWide_slice hu hv
    obtain ⟨x, rfl, hr⟩ := single (fun _ h => by cases h)
    exact ⟨x, hr, n, by simp only [HasArg, hu]; exact h2⟩
  · rename_i fs hu
    obtain ⟨cs, rfl, _⟩ := okWide_struct hu hv
    obtain ⟨x, rfl, hr⟩ := agg ⟨_, rfl⟩
    exact ⟨_, hr, n, by simp only [HasArg, hu]; exact ⟨_, rfl, h2⟩⟩
  · rename_i k e hu
    have : ∃ cs, v = .agg cs := by
      simp only [Value.okWide, hu] at hv
      cases v <;> simp_all
    obtain ⟨cs, rfl⟩ := this
    obtain ⟨x, rfl, hr⟩ := agg ⟨_, rfl⟩
    exact ⟨_, hr, n, by simp only [HasArg, hu]; exact ⟨_, rfl, h2⟩⟩
  · cases hp

theorem args_rel {H : Type} {enc : TypeId × Value → H} {w : World} {sp : Nat → Bool} {held : Bool} (hL : plainTys P L = true) {base : Nat} : ∀ {tys : List TypeId} {vs : List Value} {ds : List (DataW H)} {ps : List MemPlace}, (∀ t ∈ tys, t ∈ L) →
    (∀ (j : Nat) t v, tys[j]? = some t → vs[j]? = some v → Value.okWide P w .any base t v) → DataW.TrodAll enc P w 0 sp held tys vs ds ps → ∃ xs, RelA w (fun _ => False) xs vs ∧ HasArgs P tys xs
  | [], vs, ds, ps, _, _, h => by
    obtain ⟨rfl, rfl, rfl⟩ := trodAll_nil h
    exact ⟨[], by simp [RelA], rfl⟩
  | t :: tys, vs, ds, ps, ht, hv, h => by
    obtain ⟨v, vs1, d, ds1, a, b, rfl, rfl, rfl, h1, h2⟩ := trodAll_cons h
    obtain ⟨x, k1, k2⟩ := arg_rel hL (ht t (List.mem_cons_self ..)) (hv 0 t v rfl rfl) h1
    obtain ⟨xs, k3, k4⟩ := args_rel hL (fun u hu => ht u (List.mem_cons_of_mem _ hu)) (fun j u y h1 h2 => hv (j + 1) u y (by simpa using h1) (by simpa using h2)) h2
    exact ⟨x :: xs, by simp only [RelA]; exact ⟨v, vs1, rfl, k1, k3⟩, x, xs, rfl, k2, k4⟩

theorem args_again {H : Type} {enc : TypeId × Value → H} {w w' : World} {sp' : Nat → Bool} {held : Bool} (hL : plainTys P L = true) (hheld : held = true) : ∀ {tys : List TypeId} {vs : List Value} {ds : List (DataW H)} {ps : List MemPlace}, (∀ t ∈ tys, t ∈ L) →
    DataW.TrodAll enc P w 0 (fun _ => true) held tys vs ds ps → (∀ p ∈ ps, w.sameAt w' p) → (∀ p ∈ ps, sp' p.block = true) → DataW.TrodAll enc P w' 0 sp' held tys vs ds ps
  | [], vs, ds, ps, _, h, _, _ => by
    obtain ⟨rfl, rfl, rfl⟩ := trodAll_nil h
    exact trodAll_mk0
  | t :: tys, vs, ds, ps, ht, h, h1, h2 => by
    obtain ⟨v, vs1, d, ds1, a, b, rfl, rfl, rfl, ⟨n, k1⟩, k2⟩ := trodAll_cons h
    refine trodAll_cons_mk ⟨n, DataW.trod_stays (plain_kids hL) (fun {t e} ht hu => ?_) (fun h => by rw [hheld] at h; cases h) (ht t (List.mem_cons_self ..)) k1 (fun p hp => h1 p (List.mem_append_left _ hp)) (fun p hp => h2 p (List.mem_append_left _ hp))⟩
      (args_again hL hheld (fun u hu => ht u (List.mem_cons_of_mem _ hu)) k2 (fun p hp => h1 p (List.mem_append_right _ hp)) (fun p hp => h2 p (List.mem_append_right _ hp)))
    have := plain_mem hL ht
    simp only [plainTy, hu, Bool.and_eq_true, decide_eq_true_eq] at this
    exact this.2

theorem trod_len {H : Type} {enc : TypeId × Value → H} {w : World} {b : Nat} {sp : Nat → Bool} {held : Bool} : ∀ {tys : List TypeId} {vs : List Value} {ds : List (DataW H)} {ps : List MemPlace}, DataW.TrodAll enc P w b sp held tys vs ds ps → ds.length = tys.length
  | [], vs, ds, ps, h => by
    obtain ⟨rfl, rfl, rfl⟩ := trodAll_nil h
    rfl
  | t :: tys, vs, ds, ps, h => by
    obtain ⟨v, vs1, d, ds1, a, b, rfl, rfl, rfl, h1, h2⟩ := trodAll_cons h
    simp [trod_len h2]

/-- A law: what the machine says of the call is what the row says. -/
theorem law_contract {H : Type} {enc : TypeId × Value → H} {W : World} {base : Nat} {args : Array Value} {ds gs : List (DataW H)} {before : List MemPlace} {f : FuncId} {fn : Func} {s : ChangeSpec} {tb : TypeId} {apart fresh handsOn again : Bool}
    (hL : plainTys P L = true) (hpar : ∀ t ∈ fn.params.toList, t ∈ L) (hres : fn.resultTypes = #[tb]) (hb : P.underlying tb = some .bool) (hvars : s.vars = []) (hfn : ∀ ds : List (DataW H), ds.length = fn.params.size → s.fn H ds = { results := [.lit (.bool true)], args := ds })
    (hcalls : ∀ xs, HasArgs P fn.params.toList xs → CallsOk P f xs (.bool true))
    (hval : ∀ (j : Nat) t v, fn.params[j]? = some t → args[j]? = some v → Value.okWide P W .any base t v)
    (hW : DataW.Whole enc P fn.params.toList s.vars apart W args.toList ds gs before) (hg : GOk W fun _ => False) :
    Calls P f args W fun e W' => ∃ v, e = .returned v ∧ s.post enc P fn apart fresh handsOn again W args v W' := by
  have hW' := hW
  obtain ⟨p, q, hA, hV, rfl, hfz, hnd⟩ := hW
  rw [hvars] at hV
  obtain ⟨rfl, rfl⟩ := trodVars_none hV
  obtain ⟨xs, hr, hx⟩ := args_rel hL hpar (fun j t v h1 h2 => hval j t v (by simpa using h1) (by simpa using h2)) hA
  have hlen : ds.length = fn.params.size := by
    have := trod_len hA
    simpa using this
  refine ((hcalls xs hx).calls hg hr).mono ?_
  rintro e w' ⟨v, rfl, hbl, hv⟩
  simp only [RelT] at hv
  subst hv
  have hlt := hW'.lt
  have hargs : ∀ sp : Nat → Bool, (∀ x ∈ p, sp x.block = true) → DataW.TrodAll enc P w' 0 sp true fn.params.toList args.toList ds p := fun sp hsp =>
    args_again hL rfl hpar hA (fun x hx => hbl.same (hlt x (by simpa using hx))) hsp
  have hrs : ∀ (b : Nat) (sp : Nat → Bool) (hd : Bool), DataW.TrodAll enc P w' b sp hd fn.resultTypes.toList ((Value.bool true).resultList fn.resultTypes.size) [.lit (.bool true)] [] := fun b sp hd => by
    rw [hres]; exact trodAll_cons_mk (shut_bool hb _) trodAll_mk0
  have he : s.fn H (ds ++ []) = { results := [.lit (.bool true)], args := ds } := by rw [List.append_nil]; exact hfn ds hlen
  have hv0 : ∀ sp : Nat → Bool, DataW.TrodVars enc P w' sp s.vars [] [] := fun sp => by rw [hvars]; rfl
  have hev : (s.fn H (ds ++ [])).vars = [] := by rw [he]
  refine ⟨_, rfl, ds, [], p ++ [], [], p, [], hW', by rw [he]; exact hrs _ _ _, by rw [he]; exact hargs _ (fun x hx => by simpa using hlt x (by simpa using hx)), by rw [hev]; exact hv0 _, hbl.frame _, fun _ => ?_⟩
  refine ⟨ok_one hres rfl (okWide_bool_mk hb _), _, _, ([] ++ p) ++ [], ⟨[] ++ p, [], trodAll_append (hargs _ (fun _ _ => rfl)) (hrs _ _ _), hv0 _, rfl, ?_, ?_⟩, ?_⟩
  · intro b off hp
    rw [hbl.frozen (hlt _ (by simpa using hp))]
    exact hfz b off (by simpa using hp)
  · intro ha
    simpa using hnd ha
  · intro x hx _
    simpa using hx
end

/-- Types of plain data, spelt out. -/
inductive Ty where
  | bool | int (k : IntKind) | str
  | slice (e : Ty)
  | seq (fs : List Ty)

mutual
def Ty.has : Ty → List T → Prop
  | .bool, ts => ∃ b, ts = [.bool b]
  | .int k, ts => ∃ x, ts = [.int k x] ∧ (Lit.int k x).wf = true
  | .str, ts => ∃ s, ts = [.str s] ∧ s.size ≤ maxLen
  | .slice e, ts => ∃ rows, ts = [.sl rows] ∧ rows.length ≤ maxLen ∧ ∀ r ∈ rows, e.has r
  | .seq fs, ts => Ty.hasAll fs ts
def Ty.hasAll : List Ty → List T → Prop
  | [], ts => ts = []
  | t :: tys, ts => ∃ a b, ts = a ++ b ∧ t.has a ∧ Ty.hasAll tys b
end
/-- An argument: a struct's cells stand in a bundle. -/
def Ty.arg : Ty → T → Prop
  | .seq fs, x => ∃ ts, x = .agg ts ∧ Ty.hasAll fs ts
  | ty, x => ty.has [x]
def Ty.args : List Ty → List T → Prop
  | [], xs => xs = []
  | t :: tys, xs => ∃ x xs', xs = x :: xs' ∧ t.arg x ∧ Ty.args tys xs'

def tyOf (P : Program) : Nat → TypeId → Option Ty
  | 0, _ => none
  | n + 1, t =>
    match P.underlying t with
    | some .bool => some .bool
    | some (.int k) => some (.int k)
    | some .string => some .str
    | some (.slice e) => (tyOf P n e).map .slice
    | some (.struct fs) => (tysOf (tyOf P n) (fs.toList.map (·.type))).map .seq
    | some (.array k e) => (tyOf P n e).map fun x => .seq (List.replicate k x)
    | _ => none
where
  tysOf (q : TypeId → Option Ty) : List TypeId → Option (List Ty)
  | [] => some []
  | t :: ts => match q t, tysOf q ts with
    | some x, some xs => some (x :: xs)
    | _, _ => none

section
variable {P : Program}
theorem has_of : ∀ (m n : Nat) (t : TypeId) (ty : Ty) (ts : List T), tyOf P m t = some ty → HasTy P n t ts → ty.has ts := by
  intro m
  induction m with
  | zero => intro n t ty ts h; simp [tyOf] at h
  | succ m ih =>
    intro n t ty ts h hs
    cases n with
    | zero => exact hs.elim
    | succ n =>
      unfold tyOf at h
      unfold HasTy at hs
      split at h
      · rename_i hu; rw [hu] at hs; cases h; simpa [Ty.has] using hs
      · rename_i hu; rw [hu] at hs; cases h; simpa [Ty.has] using hs
      · rename_i hu; rw [hu] at hs; cases h; simpa [Ty.has] using hs
      · rename_i e hu; rw [hu] at hs
        obtain ⟨x, hx, rfl⟩ := Option.map_eq_some_iff.1 h
        obtain ⟨rows, rfl, h1, h2⟩ := hs
        simp only [Ty.has]
        exact ⟨rows, rfl, h1, fun r hr => ih n e x r hx (h2 r hr)⟩
      · rename_i fs hu; rw [hu] at hs
        obtain ⟨x, hx, rfl⟩ := Option.map_eq_some_iff.1 h
        simp only [Ty.has]
        have key : ∀ (tys : List TypeId) (xs : List Ty) (ts : List T), tyOf.tysOf (tyOf P m) tys = some xs → allTys (HasTy P n) tys ts → Ty.hasAll xs ts := by
          intro tys
          induction tys with
          | nil => intro xs ts h hs; simp only [tyOf.tysOf, Option.some.injEq] at h; subst h; simpa [Ty.hasAll, allTys] using hs
          | cons u tys ih2 =>
            intro xs ts h hs
            simp only [tyOf.tysOf] at h
            split at h
            · rename_i y ys hy hys
              cases h
              simp only [allTys] at hs
              obtain ⟨a, b, rfl, h1, h2⟩ := hs
              simp only [Ty.hasAll]
              exact ⟨a, b, rfl, ih n u y a hy h1, ih2 ys b hys h2⟩
            · cases h
        exact key _ _ _ hx hs
      · rename_i k e hu; rw [hu] at hs
        obtain ⟨x, hx, rfl⟩ := Option.map_eq_some_iff.1 h
        simp only [Ty.has]
        have key : ∀ (k : Nat) (ts : List T), allTys (HasTy P n) (List.replicate k e) ts → Ty.hasAll (List.replicate k x) ts := by
          intro k
          induction k with
          | zero => intro ts hs; simpa [Ty.hasAll, allTys] using hs
          | succ k ih2 =>
            intro ts hs
            simp only [List.replicate_succ, allTys] at hs
            obtain ⟨a, b, rfl, h1, h2⟩ := hs
            simp only [List.replicate_succ, Ty.hasAll]
            exact ⟨a, b, rfl, ih n e x a hx h1, ih2 b h2⟩
        exact key k ts hs
      · cases h

theorem arg_of {m n : Nat} {t : TypeId} {ty : Ty} {x : T} (h : tyOf P m t = some ty) (hs : HasArg P n t x) : ty.arg x := by
  cases m with
  | zero => simp [tyOf] at h
  | succ m =>
    have h0 := h
    unfold tyOf at h
    unfold HasArg at hs
    split at h
    · rename_i hu; rw [hu] at hs; cases h; exact has_of _ _ _ _ _ h0 hs
    · rename_i hu; rw [hu] at hs; cases h; exact has_of _ _ _ _ _ h0 hs
    · rename_i hu; rw [hu] at hs; cases h; exact has_of _ _ _ _ _ h0 hs
    · rename_i e hu; rw [hu] at hs
      obtain ⟨y, hy, rfl⟩ := Option.map_eq_some_iff.1 h
      exact has_of _ _ _ _ _ h0 hs
    · rename_i fs hu; rw [hu] at hs
      obtain ⟨y, hy, rfl⟩ := Option.map_eq_some_iff.1 h
      obtain ⟨ts, rfl, h2⟩ := hs
      have := has_of _ _ _ _ _ h0 h2
      simp only [Ty.has] at this
      exact ⟨ts, rfl, this⟩
    · rename_i k e hu; rw [hu] at hs
      obtain ⟨y, hy, rfl⟩ := Option.map_eq_some_iff.1 h
      obtain ⟨ts, rfl, h2⟩ := hs
      have := has_of _ _ _ _ _ h0 h2
      simp only [Ty.has] at this
      exact ⟨ts, rfl, this⟩
    · cases h
theorem args_of {m : Nat} : ∀ {tys : List TypeId} {l : List Ty} {xs : List T}, tyOf.tysOf (tyOf P m) tys = some l → HasArgs P tys xs → Ty.args l xs
  | [], l, xs, h, hs => by simp only [tyOf.tysOf, Option.some.injEq] at h; subst h; exact hs
  | t :: tys, l, xs, h, hs => by
    simp only [tyOf.tysOf] at h
    split at h
    · rename_i y ys hy hys
      cases h
      obtain ⟨x, xs', rfl, ⟨n, h1⟩, h2⟩ := hs
      exact ⟨x, xs', rfl, arg_of hy h1, args_of hys h2⟩
    · cases h
end
end Go.DM
/- The shape of the arguments of the Lattice statements. Conditions: none. -/
namespace Go.Proofs
open Go.DM
set_option linter.unusedVariables false
set_option linter.unusedSimpArgs false

def intTy : Ty := .int .i64
theorem maxLen_eq : maxLen = 9223372036854775807 := by decide
theorem rows_of {α : Type} {enc : α → List T} {rows : List (List T)} (h : ∀ r ∈ rows, ∃ x, r = enc x) : ∃ l : List α, rows = l.map enc := by
  induction rows with
  | nil => exact ⟨[], rfl⟩
  | cons r rows ih =>
    obtain ⟨x, rfl⟩ := h r (List.mem_cons_self ..)
    obtain ⟨l, rfl⟩ := ih fun r hr => h r (List.mem_cons_of_mem _ hr)
    exact ⟨x :: l, rfl⟩
theorem int_of {ts : List T} (h : Ty.has (.int .i64) ts) : ∃ x, ts = [ti x] := by
  simp only [Ty.has] at h
  obtain ⟨x, rfl, _⟩ := h
  exact ⟨x, rfl⟩
theorem slice_of {α : Type} {enc : α → List T} {e : Ty} {ts : List T} (he : ∀ r, Ty.has e r → ∃ x, r = enc x) (h : Ty.has (.slice e) ts) : ∃ l : List α, ts = [.sl (l.map enc)] ∧ l.length ≤ 9223372036854775807 := by
  simp only [Ty.has] at h
  obtain ⟨rows, rfl, hl, hr⟩ := h
  obtain ⟨l, rfl⟩ := rows_of fun r hr' => he r (hr r hr')
  rw [maxLen_eq, List.length_map] at hl
  exact ⟨l, rfl, hl⟩
theorem all_cons {t : Ty} {tys : List Ty} {ts : List T} (h : Ty.hasAll (t :: tys) ts) : ∃ a b, ts = a ++ b ∧ t.has a ∧ Ty.hasAll tys b := by simpa only [Ty.hasAll] using h
theorem all_nil {ts : List T} (h : Ty.hasAll [] ts) : ts = [] := by simpa only [Ty.hasAll] using h
theorem seq_of {fs : List Ty} {ts : List T} (h : Ty.has (.seq fs) ts) : Ty.hasAll fs ts := by simpa only [Ty.has] using h
def colTy : Ty := .seq [.int .i64, .slice intTy, .int .i64]
def inputTy : Ty := .seq [.slice colTy, .slice intTy, .int .i64]
theorem col_of {ts : List T} (h : colTy.has ts) : ∃ r : Column, ts = r.enc := by
  obtain ⟨_, _, rfl, h1, h⟩ := all_cons (seq_of h)
  obtain ⟨_, _, rfl, h2, h⟩ := all_cons h
  obtain ⟨_, _, rfl, h3, h⟩ := all_cons h
  obtain rfl := all_nil h
  obtain ⟨a, rfl⟩ := int_of h1
  obtain ⟨l, rfl, hl⟩ := slice_of (fun r => int_of) h2
  obtain ⟨c, rfl⟩ := int_of h3
  exact ⟨⟨a, l, c⟩, rfl⟩
end Go.Proofs
/- The shape of small whole numbers as arguments. Conditions: none. -/
namespace Go.Proofs
open Go.DM
theorem u8_of {x : T} (h : (Ty.int .u8).arg x) : ∃ n : Int, x = .int .u8 n ∧ 0 ≤ n ∧ n ≤ 255 := by
  unfold Ty.arg Ty.has at h
  obtain ⟨n, hx, hw⟩ := h
  simp only [List.cons.injEq, and_true] at hx
  simp only [Lit.wf, Bool.and_eq_true, decide_eq_true_eq] at hw
  have e1 : IntKind.u8.min = 0 := by decide
  have e2 : IntKind.u8.max = 255 := by decide
  rw [e1, e2] at hw
  exact ⟨n, hx, hw.1, hw.2⟩
end Go.Proofs
/- The shape of what the laws ask, as an argument; what the listed variable holds. Conditions: none. -/
namespace Go.Proofs
namespace Inc
open Go.DM Go.ChangeShapes Go.Deep
set_option linter.unusedVariables false
def ruleTy : Ty := .seq [.int .i64, .int .i64, .int .i64, .int .i64, .int .i64, .int .i64]
def normalTy : Ty := .seq [.int .i64, .int .i64, .int .i64, .slice ruleTy]
def askTy : Ty := .seq [normalTy, inputTy, .int .i64, .int .i64, .slice colTy]
theorem rule_of {ts : List T} (h : ruleTy.has ts) : ∃ r : Rule, ts = r.enc := by
  obtain ⟨_, _, rfl, h1, h⟩ := all_cons (seq_of h)
  obtain ⟨_, _, rfl, h2, h⟩ := all_cons h
  obtain ⟨_, _, rfl, h3, h⟩ := all_cons h
  obtain ⟨_, _, rfl, h4, h⟩ := all_cons h
  obtain ⟨_, _, rfl, h5, h⟩ := all_cons h
  obtain ⟨_, _, rfl, h6, h⟩ := all_cons h
  obtain rfl := all_nil h
  obtain ⟨a, rfl⟩ := int_of h1
  obtain ⟨b, rfl⟩ := int_of h2
  obtain ⟨c, rfl⟩ := int_of h3
  obtain ⟨d, rfl⟩ := int_of h4
  obtain ⟨e, rfl⟩ := int_of h5
  obtain ⟨f, rfl⟩ := int_of h6
  exact ⟨⟨a, b, c, d, e, f⟩, rfl⟩
theorem ask_of {x : T} (h : askTy.arg x) : ∃ z : Ask, x = z.enc ∧ z.n.rules.length ≤ 9223372036854775807 ∧ z.x.insert.length ≤ 9223372036854775807 := by
  unfold askTy Ty.arg at h
  obtain ⟨ts, rfl, h⟩ := h
  obtain ⟨_, _, rfl, h1, h⟩ := all_cons h
  obtain ⟨_, _, rfl, h2, h⟩ := all_cons h
  obtain ⟨_, _, rfl, h3, h⟩ := all_cons h
  obtain ⟨_, _, rfl, h4, h⟩ := all_cons h
  obtain ⟨_, _, rfl, h5, h⟩ := all_cons h
  obtain rfl := all_nil h
  obtain ⟨_, _, rfl, n1, h1⟩ := all_cons (seq_of h1)
  obtain ⟨_, _, rfl, n2, h1⟩ := all_cons h1
  obtain ⟨_, _, rfl, n3, h1⟩ := all_cons h1
  obtain ⟨_, _, rfl, n4, h1⟩ := all_cons h1
  obtain rfl := all_nil h1
  obtain ⟨_, _, rfl, x1, h2⟩ := all_cons (seq_of h2)
  obtain ⟨_, _, rfl, x2, h2⟩ := all_cons h2
  obtain ⟨_, _, rfl, x3, h2⟩ := all_cons h2
  obtain rfl := all_nil h2
  obtain ⟨nt, rfl⟩ := int_of n1
  obtain ⟨nn, rfl⟩ := int_of n2
  obtain ⟨ns, rfl⟩ := int_of n3
  obtain ⟨rules, rfl, hr⟩ := slice_of (fun r => rule_of) n4
  obtain ⟨cols, rfl, hc⟩ := slice_of (fun r => col_of) x1
  obtain ⟨ins, rfl, hi⟩ := slice_of (fun r => int_of) x2
  obtain ⟨sw, rfl⟩ := int_of x3
  obtain ⟨fr, rfl⟩ := int_of h3
  obtain ⟨od, rfl⟩ := int_of h4
  obtain ⟨new, rfl, hn⟩ := slice_of (fun r => col_of) h5
  exact ⟨⟨⟨nt, nn, ns, rules⟩, ⟨cols, ins, sw⟩, fr, od, new⟩, rfl, hr, hi⟩
theorem u8_has {ts : List T} (h : Ty.has (.int .u8) ts) : ∃ n : Nat, ts = [.int .u8 n] ∧ n < 256 := by
  unfold Ty.has at h
  obtain ⟨n, hx, hw⟩ := h
  simp only [Lit.wf, Bool.and_eq_true, decide_eq_true_eq] at hw
  have e1 : IntKind.u8.min = 0 := by decide
  have e2 : IntKind.u8.max = 255 := by decide
  rw [e1, e2] at hw
  obtain ⟨n, rfl⟩ := Int.eq_ofNat_of_zero_le hw.1
  exact ⟨n, hx, by omega⟩
theorem pair_of {x : T} (h : (Ty.seq [.int .u8, .int .u8]).arg x) : ∃ a b : Nat, x = .agg [.int .u8 a, .int .u8 b] ∧ a < 256 ∧ b < 256 := by
  unfold Ty.arg at h
  obtain ⟨ts, rfl, h⟩ := h
  obtain ⟨_, _, rfl, h1, h⟩ := all_cons h
  obtain ⟨_, _, rfl, h2, h⟩ := all_cons h
  obtain rfl := all_nil h
  obtain ⟨a, rfl, ha⟩ := u8_has h1
  obtain ⟨b, rfl, hb⟩ := u8_has h2
  exact ⟨a, b, rfl, ha, hb⟩
abbrev theLaid : List (String × DataW Unit) := [("emendate/chart.none", .agg [.agg [.lit (.int .i64 1099511627776), .lit (.int .i64 0)], .lit (.int .i64 (-1)), .lit (.int .i64 0)])]
theorem gNone : Tryz.prog.globalNamed "emendate/chart.none" = some 0 := by kernel_rfl
theorem tNone : (Tryz.prog.globals[0]?).map (·.type) = some 57 := by kernel_rfl
theorem uCell : Tryz.prog.underlying 57 = some (.struct #[⟨"Value", 55, 0, false, "", "", 0⟩, ⟨"Rule", 3, 2, false, "", "", 16⟩, ⟨"Arg", 3, 3, false, "", "", 24⟩]) := by kernel_rfl
theorem uVal : Tryz.prog.underlying 55 = some (.struct #[⟨"Cost", 3, 0, false, "", "", 0⟩, ⟨"Size", 3, 1, false, "", "", 8⟩]) := by kernel_rfl
theorem uInt : Tryz.prog.underlying 3 = some (.int .i64) := by kernel_rfl
theorem cells57 : Tryz.prog.cellsOf 57 = 4 := by kernel_rfl
theorem cells55 : Tryz.prog.cellsOf 55 = 2 := by kernel_rfl
theorem cells3 : Tryz.prog.cellsOf 3 = 1 := by kernel_rfl
theorem cs4 {cs : List Value} (h : cs.length = 4) : ∃ a b c d, cs = [a, b, c, d] := by
  match cs, h with
  | [a, b, c, d], _ => exact ⟨a, b, c, d, rfl⟩
theorem of_laid {W : World} (h : laidMet Tryz.prog theLaid W) : W.cell? ⟨0, 0, none⟩ = some (.int .i64 1099511627776) ∧ W.cell? ⟨0, 1, none⟩ = some (.int .i64 0) ∧ W.cell? ⟨0, 2, none⟩ = some (.int .i64 (-1)) ∧ W.cell? ⟨0, 3, none⟩ = some (.int .i64 0) := by
  obtain ⟨ps, ⟨g, t, cs, fuel, p, q, hg, ht, hv, hd, _, _⟩, _⟩ := h
  obtain rfl := Option.some.inj (gNone.symm.trans hg)
  obtain rfl := Option.some.inj (tNone.symm.trans ht)
  obtain ⟨y0, y1, y2, n, ex, hl, e0, e1, e2⟩ := trod_struct3 uCell hd
  rw [cells57] at hl
  obtain ⟨v0, v1, v2, v3, hcs⟩ := cs4 hl
  rw [hcs] at e0 e1 e2
  obtain ⟨z0, z1, m, ey, hl2, f0, f1⟩ := trod_struct2 uVal e0
  simp only [cells55, cells3, List.drop_zero, List.take_succ_cons, List.take_zero, List.drop_succ_cons] at e1 e2 f0 f1
  obtain ⟨i1, r1, rfl, _⟩ := DataW.trod_int uInt e1
  obtain ⟨i2, r2, rfl, _⟩ := DataW.trod_int uInt e2
  obtain ⟨i3, r3, rfl, _⟩ := DataW.trod_int uInt f0
  obtain ⟨i4, r4, rfl, _⟩ := DataW.trod_int uInt f1
  subst ey
  have ex := (congrArg Prod.fst ex).symm
  simp only [DataW.agg.injEq, List.cons.injEq, DataW.lit.injEq, Lit.int.injEq, and_true, true_and, List.cons.injEq] at ex r1 r2 r3 r4
  obtain ⟨⟨rfl, rfl⟩, rfl, rfl⟩ := ex
  subst r1 r2 r3 r4
  have hc : cs = #[.int .i64 1099511627776, .int .i64 0, .int .i64 (-1), .int .i64 0] := by
    apply Array.toList_inj.1
    rw [hcs]
  subst hc
  exact ⟨World.var?_cell hg hv 0, World.var?_cell hg hv 1, World.var?_cell hg hv 2, World.var?_cell hg hv 3⟩
theorem laidOk {W : World} (h : laidMet Tryz.prog theLaid W) : GOk W fun _ => False := by
  obtain ⟨h0, h1, h2, h3⟩ := of_laid h
  intro p hp
  obtain rfl : p = _ := List.mem_singleton.1 hp
  refine ⟨(cell_in h0).1, fun x => x, ?_⟩
  simp only [RelAt, RelT, and_true, Nat.zero_add, Nat.reduceAdd]
  exact ⟨⟨_, h0, rfl, rfl⟩, ⟨_, h1, rfl, rfl⟩, ⟨_, h2, rfl, rfl⟩, ⟨_, h3, rfl, rfl⟩⟩
end Inc
end Go.Proofs
