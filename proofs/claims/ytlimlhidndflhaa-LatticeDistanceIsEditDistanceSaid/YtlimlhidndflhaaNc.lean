/- The reference's Path and Script. Conditions: none. -/
import Derived.Test.YtlimlhidndflhaaLc
import Derived.Test.YtlimlhidndflhaaNb
import Derived.Test.YtlimlhidndflhaaNa
namespace Go.Proofs
open Go.DM
set_option linter.unusedSimpArgs false
set_option linter.unusedVariables false

theorem satA_nn {a b : Int} (ha : 0 ≤ a) (hb : 0 ≤ b) : 0 ≤ satA a b := by unfold satA; split <;> omega

/-! Script -/
end Go.Proofs
/- Law 6. Conditions: none. -/
namespace Go.Proofs
open Go.DM
set_option linter.unusedSimpArgs false
set_option linter.unusedVariables false

theorem fair_ok {x : Input} {k : Int} (h : fairP x k) : inOk x ∧ x.columns.length ≤ 60 ∧ x.insert.length ≤ 5 ∧ (∀ c ∈ x.columns, c.read.length = x.insert.length) := by
  obtain ⟨⟨h1, h2⟩, h3, h4⟩ := h
  have hcols : colsV x.columns x.insert.length := by
    by_cases e : colsV x.columns x.insert.length
    · exact e
    · exact absurd (.inr (.inr (.inr (.inr (.inr e))))) h3
  have hc : ∀ c ∈ x.columns, colV c x.insert.length := by
    intro c hc
    obtain ⟨i, hi, rfl⟩ := List.getElem_of_mem hc
    have := hcols i hi
    rwa [show x.columns.getD i default = x.columns[i] by simp [List.getD, hi]] at this
  have hsw : 0 ≤ x.swap ∧ x.swap ≤ 60000 := by
    constructor
    · by_cases e : x.swap < 0
      · exact absurd (.inr (.inr (.inr (.inl e)))) h3
      · omega
    · by_cases e : x.swap > 60000
      · exact absurd (.inr (.inr (.inr (.inr (.inl e))))) h3
      · omega
  have hn : x.columns.length ≤ 60 := by
    by_cases e : (x.columns.length : Int) > 60
    · exact absurd (.inr (.inl e)) h3
    · omega
  have hrd : ∀ c ∈ x.columns, c.read.length = x.insert.length := by
    intro c hcm
    have := (hc c hcm).1
    omega
  refine ⟨⟨⟨by omega, fun c hcm => ?_⟩, fun c hcm => ⟨by rw [hrd c hcm]; omega, fun p hp => ?_⟩, by omega, fun p hp => ?_, hsw.1, by omega⟩, hn, by omega, hrd⟩
  · have := (hc c hcm).1
    omega
  · obtain ⟨t, ht, rfl⟩ := List.getElem_of_mem hp
    have := (hc c hcm).2 t (by rw [hrd c hcm] at ht; simpa using ht)
    unfold readOk3 at this
    rw [show c.read.getD t default = c.read[t] by simp [List.getD, ht]] at this
    omega
  · obtain ⟨t, ht, rfl⟩ := List.getElem_of_mem hp
    have := h4 t (by simpa using ht)
    unfold insV at this
    rw [show x.insert.getD t default = x.insert[t] by simp [List.getD, ht]] at this
    omega

/-! what the reference builds fits -/
theorem mem_putFold {a b : Arc} {l : List Arc} (h : b ∈ (putFold a l).2) : b ∈ l ∨ b = a := by
  have key : ∀ (l : List Arc) (p : Bool × List Arc), b ∈ (l.foldl (putStep a) p).2 → b ∈ p.2 ∨ b ∈ l ∨ b = a := by
    intro l
    induction l with
    | nil => intro p h; exact .inl h
    | cons c l ih =>
      intro p h
      rcases ih _ h with h | h | h
      · unfold putStep at h
        split at h
        · simp only [List.mem_append, List.mem_singleton] at h
          rcases h with h | h
          · exact .inl h
          · split at h
            · exact .inr (.inr h)
            · exact .inr (.inl (by simp [h]))
        · split at h
          · simp only [List.mem_append, List.mem_singleton] at h
            rcases h with (h | h) | h
            · exact .inl h
            · exact .inr (.inr h)
            · exact .inr (.inl (by simp [h]))
          · simp only [List.mem_append, List.mem_singleton] at h
            rcases h with h | h
            · exact .inl h
            · exact .inr (.inl (by simp [h]))
      · exact .inr (.inl (by simp [h]))
      · exact .inr (.inr h)
  rcases key l (false, []) h with h | h | h
  · simp at h
  · exact .inl h
  · exact .inr h
theorem mem_putL {a b : Arc} {l : List Arc} (h : b ∈ putL l a) : b ∈ l ∨ b = a := by
  unfold putL at h
  split at h
  · exact .inl h
  · split at h
    · exact mem_putFold h
    · rw [List.mem_append, List.mem_singleton] at h
      rcases h with h | h
      · exact mem_putFold h
      · exact .inr h
theorem mem_putAll {b : Arc} : ∀ (cs l : List Arc), b ∈ putAll l cs → b ∈ l ∨ b ∈ cs
  | [], l, h => .inl h
  | c :: cs, l, h => by
    rcases mem_putAll cs (putL l c) h with h | h
    · rcases mem_putL h with h | h
      · exact .inl h
      · exact .inr (by simp [h])
    · exact .inr (by simp [h])
theorem mem_ft {α : Type} {f : Nat → List α} {i m : Nat} {a : α} (h : a ∈ ft f i m) : ∃ k, i ≤ k ∧ k < m ∧ a ∈ f k := by
  unfold ft at h
  obtain ⟨e, he, ha⟩ := List.mem_flatMap.1 h
  rw [List.mem_range] at he
  exact ⟨i + e, by omega, by omega, ha⟩
def arcGood (n : Nat) (a : Arc) : Prop := 0 ≤ a.f ∧ a.f < (2 * n + 1 : Nat) ∧ 0 ≤ a.t ∧ a.t < (2 * n + 1 : Nat) ∧ a.ops.length ≤ 1000000 ∧ 0 ≤ a.cost
theorem dels_len (n : Nat) : (dels n).length = n := by simp [dels]
theorem refArcs_good {x : Input} (hx : inOk x) (hn : x.columns.length ≤ 60) : ∀ a ∈ refArcs x, arcGood x.columns.length a := by
  obtain ⟨hd, hcs, hins, hinp, hsw0, hsw⟩ := hx
  have hdb := delC_bound hd
  intro a ha
  unfold refArcs at ha
  rcases mem_putAll _ _ ha with ha | ha
  · rcases mem_putAll _ _ ha with ha | ha
    · cases ha
    · obtain ⟨i, _, hi, ha⟩ := mem_ft ha
      unfold rI at ha
      rcases List.mem_append.1 ha with ha | ha
      · obtain ⟨m, hm1, hm2, ha⟩ := mem_ft ha
        unfold rM at ha
        rcases List.mem_append.1 ha with ha | ha
        · obtain ⟨t, _, ht, ha⟩ := mem_ft ha
          unfold rA at ha
          split at ha
          · rename_i hc
            rw [List.mem_singleton] at ha
            subst ha
            have := satA_nn (hdb i m).1 hc.2
            refine ⟨by simp only; omega, by simp only; omega, by simp only; omega, by simp only; omega, by simp [dels_len]; omega, this⟩
          · cases ha
        · unfold rS at ha
          split at ha
          · rename_i hc
            have hc' : m + 1 < x.columns.length := by simp [swapOk] at hc; exact hc.1
            rw [List.mem_singleton] at ha
            subst ha
            have := satA_nn (hdb i m).1 hsw0
            refine ⟨by simp only; omega, by simp only; omega, by simp only; omega, by simp only; omega, by simp [dels_len]; omega, this⟩
          · cases ha
      · unfold rT at ha
        split at ha
        · rename_i hc
          have hc' : i + 1 < x.columns.length := by simp [swapOk] at hc; exact hc.1
          rw [List.mem_singleton] at ha
          subst ha
          refine ⟨by simp only; omega, by simp only; omega, by simp only; omega, by simp only; omega, by simp, by simp⟩
        · cases ha
  · obtain ⟨i, _, hi, ha⟩ := mem_ft ha
    unfold iI at ha
    obtain ⟨m, hm1, hm2, ha⟩ := mem_ft ha
    unfold iM at ha
    obtain ⟨t, _, ht, ha⟩ := mem_ft ha
    unfold iT at ha
    rw [List.mem_singleton] at ha
    subst ha
    have := satA_nn (hdb i m).1 (hinp (x.insert.getD t default) (by simp [List.getD, ht])).1
    refine ⟨by simp only; omega, by simp only; omega, by simp only; omega, by simp only; omega, by simp [dels_len]; omega, this⟩
theorem refFin_len (x : Input) (k : Nat) : (refFin x k).length = 2 * x.columns.length + 1 := by simp [refFin]
theorem refArcs_len {x : Input} (ht : x.insert.length ≤ 100) (hn : x.columns.length ≤ 60) : (refArcs x).length ≤ 900000 := by
  unfold refArcs
  have h1 := putAll_len (ft (iI x) 0 (x.columns.length + 1)) (putAll [] (ft (rI x) 0 (x.columns.length + 1)))
  have h2 := putAll_len (ft (rI x) 0 (x.columns.length + 1)) []
  have h3 := ft_len (f := iI x) (B := 7000) (fun k => iI_len x k ht hn) 0 (x.columns.length + 1)
  have h4 := ft_len (f := rI x) (B := 7000) (fun k => rI_len x k ht hn) 0 (x.columns.length + 1)
  simp at h2
  omega

abbrev g11 : DM.Spec := specP (fun ts => ∃ (x : Input) (k : Int), ts = [x.enc, ti k]) (fun | [x, .int _ k] => .bool (decide (fairP (decX x) k)) | _ => .bool false) true
abbrev g14 : DM.Spec := specP (fun ts => ∃ (x : Input) (k : Int), ts = [x.enc] ∧ fairP x k) (fun | [x] => (refBuildL (decX x)).enc | _ => .bool false) false
end Go.Proofs
