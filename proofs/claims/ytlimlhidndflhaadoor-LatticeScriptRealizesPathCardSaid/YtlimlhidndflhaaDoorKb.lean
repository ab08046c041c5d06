/- Insertion sort of keys. Conditions: none. -/
import Derived.Test.YtlimlhidndflhaaDoorKa
import Derived.Test.YtlimlhidndflhaaDoorMg
import Derived.Test.YtlimlhidndflhaaDoorJb
namespace Go.Proofs
open Go.DM Go.DM.Srt
set_option linter.unusedSimpArgs false
set_option linter.unusedVariables false

section
variable (good : List T → Prop) (cmpF : List T → List T → Int)
abbrev ltF (x y : List T) : Bool := decide (cmpF x y < 0)
variable {good cmpF}
theorem dr {n : Nat} {x : List T} (h : x.length = n) : x.drop n = [] := by subst h; simp
theorem tk {n : Nat} {x : List T} (h : x.length = n) : x.take n = x := by subst h; simp

end
end Go.Proofs
/- How long a list may be sorted. Conditions: none. -/
namespace Go.Proofs
open Go.DM Go.DM.Srt
set_option linter.unusedSimpArgs false
set_option linter.unusedVariables false

/-- How long a list the contract of sorting speaks of. -/
def sortBound : Nat := 1000000000
end Go.Proofs
/- Keys in order: plain laws. Conditions: none. -/
namespace Go.Proofs
open Go.DM Go.DM.Srt
set_option linter.unusedSimpArgs false
set_option linter.unusedVariables false

def keyRow (a : Arc) : List T := [ti a.f, ti a.t, ti a.term]
def goodK (r : List T) : Prop := ∃ f t x : Int, r = [ti f, ti t, ti x]
/-- The numbers in a row. -/
def ints3 (r : List T) : Int × Int × Int := (unti (r.getD 0 (ti 0)), unti (r.getD 1 (ti 0)), unti (r.getD 2 (ti 0)))
def lt3 (a b : Int × Int × Int) : Prop := a.1 < b.1 ∨ (a.1 = b.1 ∧ (a.2.1 < b.2.1 ∨ (a.2.1 = b.2.1 ∧ a.2.2 < b.2.2)))
theorem or3 (a b c d e f : Int) : orI [cmpI a d, cmpI b e, cmpI c f] < 0 ↔ lt3 (a, b, c) (d, e, f) := by
  simp only [orI, cmpI, lt3]
  by_cases h1 : a < d
  · simp [h1]
  · by_cases h2 : d < a
    · have : a ≠ d := by omega
      simp [h1, h2, this]
    · have : a = d := by omega
      subst this
      by_cases h3 : b < e
      · simp [h3]
      · by_cases h4 : e < b
        · have : b ≠ e := by omega
          simp [h3, h4, this]
        · have : b = e := by omega
          subst this
          by_cases h5 : c < f
          · simp [h5]
          · by_cases h6 : f < c
            · have : ¬ c < f := by omega
              simp [h5, h6]
            · simp [h5, h6]
theorem ltF_iff (x y : List T) : ltF cmpKey x y = true ↔ lt3 (ints3 x) (ints3 y) := by
  simp only [ltF, decide_eq_true_eq]
  exact or3 _ _ _ _ _ _
theorem ltF_false (x y : List T) : ltF cmpKey x y = false ↔ ¬ lt3 (ints3 x) (ints3 y) := by
  rw [← ltF_iff]; simp
theorem swoK : SWO (ltF cmpKey) := by
  refine ⟨fun x => ?_, fun x y z h1 h2 => ?_, fun x y z h1 h2 => ?_⟩
  · rw [ltF_false]; unfold lt3; omega
  · rw [ltF_iff] at h1 h2 ⊢
    unfold lt3 at h1 h2 ⊢; omega
  · rw [ltF_false] at h1 h2 ⊢
    unfold lt3 at h1 h2 ⊢; omega
theorem eqvK {x y : List T} (h : eqv (ltF cmpKey) x y = true) : ints3 x = ints3 y := by
  simp only [eqv, Bool.and_eq_true, Bool.not_eq_true', ltF_false] at h
  unfold lt3 at h
  generalize ints3 x = p at h ⊢
  generalize ints3 y = q at h ⊢
  obtain ⟨a1, a2, a3⟩ := p
  obtain ⟨b1, b2, b3⟩ := q
  simp only [Prod.mk.injEq] at h ⊢
  omega
theorem goodK_ext {x y : List T} (hx : goodK x) (hy : goodK y) (h : ints3 x = ints3 y) : x = y := by
  obtain ⟨a, b, c, rfl⟩ := hx
  obtain ⟨d, e, f, rfl⟩ := hy
  simp [ints3, unti] at h
  simp [h]
theorem filter_small {l : List (List T)} (hg : ∀ x ∈ l, goodK x) (hn : l.Nodup) (z : List T) : (l.filter (eqv (ltF cmpKey) z)).length ≤ 1 := by
  have hn' : (l.filter (eqv (ltF cmpKey) z)).Nodup := hn.filter _
  have hall : ∀ x ∈ l.filter (eqv (ltF cmpKey) z), goodK x ∧ ints3 x = ints3 z := by
    intro x hx
    rw [List.mem_filter] at hx
    exact ⟨hg x hx.1, (eqvK hx.2).symm⟩
  match hl : l.filter (eqv (ltF cmpKey) z), hn', hall with
  | [], _, _ => simp
  | [a], _, _ => simp
  | a :: b :: l, hn', hall =>
    exfalso
    have h1 := hall a (by simp)
    have h2 := hall b (by simp)
    have := goodK_ext h1.1 h2.1 (h1.2.trans h2.2.symm)
    subst this
    simp at hn'
/-- Lists of the same keys, each once, come out alike. -/
theorem isort_perm {l1 l2 : List (List T)} (hp : l1.Perm l2) (hg : ∀ x ∈ l2, goodK x) (hn : l2.Nodup) : isort (ltF cmpKey) l1 = isort (ltF cmpKey) l2 := by
  refine isort_eq swoK (isort_sorted swoK l2) fun x => ?_
  rw [isort_filter swoK]
  have h1 := hp.filter (eqv (ltF cmpKey) x)
  have h2 := filter_small hg hn x
  cases h : l2.filter (eqv (ltF cmpKey) x) with
  | nil => rw [h] at h1; exact (List.Perm.eq_nil h1).symm
  | cons a t =>
    rw [h] at h1 h2
    have : t = [] := by cases t with
      | nil => rfl
      | cons b t => simp at h2
    subst this
    exact (List.perm_singleton.1 h1).symm

/-! the candidates' keys -/
theorem keyRow_inj {a b : Arc} : keyRow a = keyRow b ↔ sameKey a b = true := by simp [keyRow, sameKey]
theorem addL_nodup {al : List Arc} (h : (al.map keyRow).Nodup) (a : Arc) : ((addL al a).map keyRow).Nodup := by
  unfold addL
  split
  · cases hf : al.findIdx? (sameKey a) with
    | none =>
      simp only
      rw [List.map_append, List.nodup_append]
      refine ⟨h, by simp, ?_⟩
      intro x hx y hy
      simp only [List.map_cons, List.map_nil, List.mem_singleton] at hy
      subst hy
      obtain ⟨b, hb, rfl⟩ := List.mem_map.1 hx
      intro e
      rw [List.findIdx?_eq_none_iff] at hf
      have := hf b hb
      rw [keyRow_inj.1 e.symm] at this
      cases this
    | some i =>
      simp only
      split
      · have hi := idx_bound hf
        rw [List.findIdx?_eq_some_iff_getElem] at hf
        have hk : keyRow a = keyRow al[i] := keyRow_inj.2 hf.2.1
        rw [List.map_set, hk]
        have : (al.map keyRow).set i (keyRow al[i]) = al.map keyRow := by
          apply List.ext_getElem
          · simp
          · intro k h1 h2
            rw [List.getElem_set]
            split
            · rename_i e; subst e; simp
            · rfl
        rw [this]
        exact h
      · exact h
  · exact h
theorem addAll_nodup (cs : List Arc) : ∀ {al : List Arc}, (al.map keyRow).Nodup → ((addAll al cs).map keyRow).Nodup := by
  induction cs with
  | nil => intro al h; exact h
  | cons c cs ih => intro al h; exact ih (addL_nodup h c)

/-- The arc of a key. -/
def look3 (al : List Arc) (r : List T) : Arc := (al.find? (sameKey ⟨(ints3 r).1, (ints3 r).2.1, (ints3 r).2.2, 0, []⟩)).getD default
theorem find_idx {α : Type} (p : α → Bool) (l : List α) : l.find? p = (l.findIdx? p).bind fun i => l[i]? := by
  induction l with
  | nil => rfl
  | cons x l ih =>
    rw [List.find?_cons, List.findIdx?_cons]
    cases h : p x with
    | true => simp
    | false => simp [ih]; cases l.findIdx? p <;> simp
theorem look3_mem {al : List Arc} {a : Arc} (h : a ∈ al) : sameKey a (look3 al (keyRow a)) = true ∧ look3 al (keyRow a) ∈ al ∧ ∃ i, findE a.key (entries al) = some (i, (look3 al (keyRow a)).key, .v (.agg (look3 al (keyRow a)).enc)) := by
  have e : sameKey ⟨(ints3 (keyRow a)).1, (ints3 (keyRow a)).2.1, (ints3 (keyRow a)).2.2, 0, []⟩ = sameKey a := by
    funext b
    simp [sameKey, ints3, keyRow, unti]
  unfold look3
  rw [e, findE_at, entries_idx, find_idx]
  cases hf : al.findIdx? (sameKey a) with
  | none =>
    rw [List.findIdx?_eq_none_iff] at hf
    have := hf a h
    simp [sameKey] at this
  | some i =>
    have hi := idx_bound hf
    rw [List.findIdx?_eq_some_iff_getElem] at hf
    simp only [Option.bind_some, entries_get, List.getElem?_eq_getElem hi, Option.map_some, Option.getD_some]
    exact ⟨hf.2.1, List.getElem_mem hi, i, rfl⟩
/-- The arcs in the order of their keys. -/
def sortArcs (al : List Arc) : List Arc := (isort (ltF cmpKey) (al.map keyRow)).map (look3 al)
theorem seen_perm {al : List Arc} {sn : List Nat} (h1 : sn.Nodup) (h2 : ∀ i ∈ sn, i < al.length) (h3 : ∀ i, i < al.length → i ∈ sn) : (sn.map fun i => keyRow (al.getD i default)).Perm (al.map keyRow) := by
  have hp : sn.Perm (List.range al.length) := (List.perm_ext_iff_of_nodup h1 List.nodup_range).2 fun i => by
    rw [List.mem_range]; exact ⟨h2 i, h3 i⟩
  have := hp.map fun i => keyRow (al.getD i default)
  refine this.trans (List.Perm.of_eq ?_)
  apply List.ext_getElem
  · simp
  · intro k k1 k2
    simp at k2
    simp [k2]
end Go.Proofs
