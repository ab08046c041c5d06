/- The shape of the arguments of the Lattice statements. Conditions: none. -/
import Derived.Test.YtlimlhidndflhaaDoorJa
import Derived.Test.YtlimlhidndflhaaDoorMf
namespace Go.Proofs
open Go.DM
set_option linter.unusedVariables false
set_option linter.unusedSimpArgs false

def intTy : Ty := .int .i64
theorem maxLen_eq : maxLen = 9223372036854775807 := by decide
theorem rows_of {α : Type} {enc : α → List T} {rows : List (List T)} (h : ∀ r ∈ rows, ∃ x, r = enc x) : ∃ l : List α, rows = l.map enc := by
  induction rows with
  | nil => exact ⟨[], rfl⟩
  | cons r rows ih =>
    obtain ⟨x, rfl⟩ := h r (List.mem_cons_self ..)
    obtain ⟨l, rfl⟩ := ih fun r hr => h r (List.mem_cons_of_mem _ hr)
    exact ⟨x :: l, rfl⟩
theorem int_of {ts : List T} (h : Ty.has (.int .i64) ts) : ∃ x, ts = [ti x] := by
  simp only [Ty.has] at h
  obtain ⟨x, rfl, _⟩ := h
  exact ⟨x, rfl⟩
theorem slice_of {α : Type} {enc : α → List T} {e : Ty} {ts : List T} (he : ∀ r, Ty.has e r → ∃ x, r = enc x) (h : Ty.has (.slice e) ts) : ∃ l : List α, ts = [.sl (l.map enc)] ∧ l.length ≤ 9223372036854775807 := by
  simp only [Ty.has] at h
  obtain ⟨rows, rfl, hl, hr⟩ := h
  obtain ⟨l, rfl⟩ := rows_of fun r hr' => he r (hr r hr')
  rw [maxLen_eq, List.length_map] at hl
  exact ⟨l, rfl, hl⟩
theorem all_cons {t : Ty} {tys : List Ty} {ts : List T} (h : Ty.hasAll (t :: tys) ts) : ∃ a b, ts = a ++ b ∧ t.has a ∧ Ty.hasAll tys b := by simpa only [Ty.hasAll] using h
theorem all_nil {ts : List T} (h : Ty.hasAll [] ts) : ts = [] := by simpa only [Ty.hasAll] using h
theorem seq_of {fs : List Ty} {ts : List T} (h : Ty.has (.seq fs) ts) : Ty.hasAll fs ts := by simpa only [Ty.has] using h
def colTy : Ty := .seq [.int .i64, .slice intTy, .int .i64]
def inputTy : Ty := .seq [.slice colTy, .slice intTy, .int .i64]
theorem col_of {ts : List T} (h : colTy.has ts) : ∃ r : Column, ts = r.enc := by
  obtain ⟨_, _, rfl, h1, h⟩ := all_cons (seq_of h)
  obtain ⟨_, _, rfl, h2, h⟩ := all_cons h
  obtain ⟨_, _, rfl, h3, h⟩ := all_cons h
  obtain rfl := all_nil h
  obtain ⟨a, rfl⟩ := int_of h1
  obtain ⟨l, rfl, hl⟩ := slice_of (fun r => int_of) h2
  obtain ⟨c, rfl⟩ := int_of h3
  exact ⟨⟨a, l, c⟩, rfl⟩
theorem input_of {x : T} (h : inputTy.arg x) : ∃ l : Input, x = l.enc ∧ l.columns.length ≤ 9223372036854775807 ∧ l.insert.length ≤ 9223372036854775807 := by
  unfold inputTy Ty.arg at h
  obtain ⟨ts, rfl, h⟩ := h
  obtain ⟨_, _, rfl, h1, h⟩ := all_cons h
  obtain ⟨_, _, rfl, h2, h⟩ := all_cons h
  obtain ⟨_, _, rfl, h3, h⟩ := all_cons h
  obtain rfl := all_nil h
  obtain ⟨l, rfl, hl⟩ := slice_of (fun r => col_of) h1
  obtain ⟨f, rfl, hf⟩ := slice_of (fun r => int_of) h2
  obtain ⟨a, rfl⟩ := int_of h3
  exact ⟨⟨l, f, a⟩, rfl, hl, hf⟩
end Go.Proofs
/- The shape of small whole numbers as arguments. Conditions: none. -/
namespace Go.Proofs
open Go.DM
end Go.Proofs
