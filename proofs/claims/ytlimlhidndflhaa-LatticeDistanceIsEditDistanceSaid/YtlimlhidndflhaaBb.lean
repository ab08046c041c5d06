/- Locality: the arcs up to a token boundary are those of the tokens before it. Conditions: none. -/
import Derived.Test.YtlimlhidndflhaaBa
namespace Go.Proofs
open Go.DM Go.DM.Srt
set_option linter.unusedSimpArgs false
set_option linter.unusedVariables false

/-- The first k tokens. -/
def part (x : Input) (k : Nat) : Input := ⟨x.columns.take k, x.insert, x.swap⟩
/-- The candidates of the specification. -/
def refC (x : Input) : List Arc := ft (rI x) 0 (x.columns.length + 1) ++ ft (iI x) 0 (x.columns.length + 1)
end Go.Proofs
/- Distances in lattices told by paths; the triangle law. Conditions: none. -/
namespace Go.Proofs
open Go.DM Go.DM.Srt
set_option linter.unusedSimpArgs false
set_option linter.unusedVariables false

/-- A path from the first state: its label, its end, its cost. -/
inductive PathTo (arcs : List Arc) : List Int → Nat → Int → Prop
  | nil : PathTo arcs [] 0 0
  | snoc {ys : List Int} {s : Nat} {c : Int} (a : Arc) : PathTo arcs ys s c → a ∈ arcs → a.f = s → PathTo arcs (ys ++ [a.term]) a.t.toNat (c + a.cost)
theorem PathTo.mono {arcs arcs' : List Arc} (h : ∀ a ∈ arcs, a ∈ arcs') {y : List Int} {s : Nat} {c : Int} (p : PathTo arcs y s c) : PathTo arcs' y s c := by
  induction p with
  | nil => exact .nil
  | snoc a p ha hf ih => exact .snoc a ih (h a ha) hf
theorem PathTo.cost {arcs : List Arc} (h : ∀ a ∈ arcs, 0 ≤ a.cost) {y : List Int} {s : Nat} {c : Int} (p : PathTo arcs y s c) : 0 ≤ c := by
  induction p with
  | nil => omega
  | snoc a p ha hf ih => have := h a ha; omega
theorem PathTo.snoc_inv {arcs : List Arc} {y : List Int} {t : Int} {s : Nat} {c : Int} (p : PathTo arcs (y ++ [t]) s c) : ∃ (a : Arc) (s' : Nat) (c' : Int), PathTo arcs y s' c' ∧ a ∈ arcs ∧ a.f = s' ∧ a.term = t ∧ a.t.toNat = s ∧ c = c' + a.cost := by
  generalize hz : y ++ [t] = z at p
  cases p with
  | nil => simp at hz
  | @snoc ys s' c' a p ha hf =>
    obtain ⟨h1, h2⟩ := List.append_inj' hz rfl
    simp at h2
    subst h1
    exact ⟨a, s', c', p, ha, hf, h2.symm, rfl, rfl⟩
theorem PathTo.nil_inv {arcs : List Arc} {s : Nat} {c : Int} (p : PathTo arcs [] s c) : s = 0 ∧ c = 0 := by
  generalize hz : ([] : List Int) = z at p
  cases p with
  | nil => exact ⟨rfl, rfl⟩
  | snoc a p ha hf => simp at hz

theorem relax_le {S : Nat} {at' nx : List Int} {t : Int} {a : Arc} (h2 : okA S nx) (ha : arcIn S a) {s : Nat} (hs : s < S) (v : Int) :
    (relax at' t nx a).getD s default ≤ v ↔ nx.getD s default ≤ v ∨ (a.term = t ∧ a.t.toNat = s ∧ at'.getD a.f.toNat default + a.cost ≤ v) := by
  unfold relax
  split
  · rename_i ht
    by_cases e : a.t.toNat = s
    · subst e
      simp only [List.getD, List.getElem?_set_self (show a.t.toNat < nx.length by rw [h2.1]; exact hs), Option.getD_some, ht, true_and]
      omega
    · simp only [List.getD, List.getElem?_set_ne e, e, false_and, and_false, or_false]
  · rename_i ht
    simp [ht]
theorem fold_le {S : Nat} {at' : List Int} {t : Int} (h1 : okA S at') {s : Nat} (hs : s < S) (v : Int) : ∀ (l : List Arc), (∀ a ∈ l, arcIn S a) → ∀ nx, okA S nx →
    ((l.foldl (relax at' t) nx).getD s default ≤ v ↔ nx.getD s default ≤ v ∨ ∃ a ∈ l, a.term = t ∧ a.t.toNat = s ∧ at'.getD a.f.toNat default + a.cost ≤ v)
  | [], _, nx, _ => by simp
  | a :: l, h, nx, hn => by
    rw [List.foldl_cons, fold_le h1 hs v l (fun b hb => h b (by simp [hb])) _ (okA_relax h1 hn (h a (by simp))), relax_le hn (h a (by simp)) hs v]
    simp only [List.mem_cons, exists_eq_or_imp, or_assoc]
theorem nxN_le {S : Nat} {arcs : List Arc} {at' : List Int} {t : Int} (h1 : okA S at') (ha : ∀ a ∈ arcs, arcIn S a) {s : Nat} (hs : s < S) (v : Int) :
    (nxN arcs S at' t arcs.length).getD s default ≤ v ↔ 1099511627776 ≤ v ∨ ∃ a ∈ arcs, a.term = t ∧ a.t.toNat = s ∧ at'.getD a.f.toNat default + a.cost ≤ v := by
  unfold nxN
  rw [List.take_length, fold_le h1 hs v arcs ha _ (okA_rep S)]
  simp [List.getD, hs]
theorem atN_le {S : Nat} {arcs : List Arc} {y : List Int} (ha : ∀ a ∈ arcs, arcIn S a) {v : Int} (hv : v < 1099511627776) : ∀ (j : Nat), j ≤ y.length → ∀ s, s < S →
    ((atN arcs S y j).getD s default ≤ v ↔ ∃ c, c ≤ v ∧ PathTo arcs (y.take j) s c) := by
  have hcost : ∀ a ∈ arcs, 0 ≤ a.cost := fun a h => (ha a h).2.2.2.2.1
  intro j
  induction j generalizing v with
  | zero =>
    intro _ s hs
    have e : atN arcs S y 0 = at0 S := rfl
    rw [e, List.take_zero]
    unfold at0
    by_cases h0 : s = 0
    · subst h0
      simp only [List.getD, List.getElem?_set_self (show 0 < (List.replicate S (1099511627776 : Int)).length by simpa using hs), Option.getD_some]
      constructor
      · intro h; exact ⟨0, h, .nil⟩
      · rintro ⟨c, hc, p⟩; have := p.nil_inv; omega
    · simp only [List.getD, List.getElem?_set_ne (Ne.symm h0), List.getElem?_replicate, hs, if_true, Option.getD_some]
      constructor
      · intro h; omega
      · rintro ⟨c, hc, p⟩; exact absurd p.nil_inv.1 h0
  | succ j ih =>
    intro hj s hs
    have hjl : j < y.length := by omega
    rw [atN_succ hjl, nxN_le (okA_atN ha j) ha hs]
    have ht : y.take (j + 1) = y.take j ++ [y.getD j default] := by
      rw [List.take_add_one, List.getElem?_eq_getElem hjl]; simp [List.getD, hjl]
    rw [ht]
    constructor
    · rintro (h | ⟨a, h1, h2, h3, h4⟩)
      · omega
      · have hin := ha a h1
        have hc := hcost a h1
        obtain ⟨c, hc2, p⟩ := (ih (v := v - a.cost) (by omega) (by omega) a.f.toNat (by have := hin.2.1; have := hin.1; omega)).1 (by omega)
        refine ⟨c + a.cost, by omega, ?_⟩
        rw [← h2, ← h3]
        exact .snoc a p h1 (by have := hin.1; omega)
    · rintro ⟨c, hc, p⟩
      obtain ⟨a, s', c', p', h1, h2, h3, h4, rfl⟩ := p.snoc_inv
      right
      refine ⟨a, h1, h3, h4, ?_⟩
      have hin := ha a h1
      have hcst := hcost a h1
      have hs' : s' < S := by have := hin.2.1; omega
      have := (ih (v := v - a.cost) (by omega) (by omega) s' hs').2 ⟨c', by omega, p'⟩
      rw [show a.f.toNat = s' by omega]
      omega
theorem best_le {at' fin : List Int} {v : Int} (hv : v < 1099511627776) : ∀ n, bestN at' fin n ≤ v ↔ ∃ s, s < n ∧ at'.getD s default + fin.getD s default ≤ v
  | 0 => by
    show (1099511627776 : Int) ≤ v ↔ _
    constructor
    · intro h; omega
    · rintro ⟨s, h, _⟩; omega
  | n + 1 => by
    rw [bestN_succ]
    have := best_le (at' := at') (fin := fin) hv n
    constructor
    · intro h
      by_cases h1 : bestN at' fin n ≤ v
      · obtain ⟨s, h2, h3⟩ := this.1 h1
        exact ⟨s, by omega, h3⟩
      · exact ⟨n, by omega, by omega⟩
    · rintro ⟨s, h1, h2⟩
      by_cases e : s = n
      · subst e; omega
      · have := this.2 ⟨s, by omega, h2⟩
        omega
theorem best_top (at' fin : List Int) : ∀ n, bestN at' fin n ≤ 1099511627776
  | 0 => Int.le_refl _
  | n + 1 => by rw [bestN_succ]; have := best_top at' fin n; omega
/-- The distance told by paths. -/
theorem dist_le {l : Lattice} {y : List Int} (ha : ∀ a ∈ l.arcs, arcIn l.final.length a) (hf : ∀ s, s < l.final.length → 0 ≤ l.final.getD s default) {v : Int} (hv : v < 1099511627776) :
    distL l y ≤ v ↔ ∃ s c, s < l.final.length ∧ PathTo l.arcs y s c ∧ c + l.final.getD s default ≤ v := by
  unfold distL
  rw [best_le hv]
  constructor
  · rintro ⟨s, hs, h⟩
    have := hf s hs
    obtain ⟨c, hc, p⟩ := (atN_le ha (v := v - l.final.getD s default) (by omega) y.length (Nat.le_refl _) s hs).1 (by omega)
    rw [List.take_length] at p
    exact ⟨s, c, hs, p, by omega⟩
  · rintro ⟨s, c, hs, p, h⟩
    have := hf s hs
    have := (atN_le (y := y) ha (v := v - l.final.getD s default) (by omega) y.length (Nat.le_refl _) s hs).2 ⟨c, by omega, by rwa [List.take_length]⟩
    exact ⟨s, hs, by omega⟩
theorem dist_top (l : Lattice) (y : List Int) : distL l y ≤ 1099511627776 := best_top _ _ _
theorem valid_fin {l : Lattice} {terms : Int} (h : validP l terms) : ∀ s, s < l.final.length → 0 ≤ l.final.getD s default := fun s hs => (h.2.1 s hs).1

theorem ref_fin (x : Input) {s : Nat} (hs : s < 2 * x.columns.length + 1) : (refBuildL x).final.getD s default = if s % 2 = 0 then delC x (s / 2) x.columns.length else 1099511627776 := by
  simp [refBuildL, refFin, List.getD, hs]
theorem delC_snoc (x : Input) {i m : Nat} (h : i ≤ m) (hm : m < x.columns.length) : delC x i (m + 1) = min (delC x i m + (x.columns.getD m default).delete) 1099511627776 := by
  unfold delC
  have e : (x.columns.take (m + 1)).drop i = (x.columns.take m).drop i ++ [x.columns.getD m default] := by
    rw [List.take_add_one, List.getElem?_eq_getElem hm, List.drop_append_of_le_length (by simp; omega)]
    simp [List.getD, hm]
  rw [e, delCost_snoc]
end Go.Proofs
