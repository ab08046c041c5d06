/- The D-machine, part U: more rules. Conditions: none. -/
import Derived.Test.YtecgedikabjcdaaDmT
namespace Go.DM
set_option linter.unusedVariables false
open Go.RowKit
section
variable {P : Program} {nt : Nat} {Γ : Env} {Q : Exit → DSt → Prop} {tm : Nat → DV} {ob : Obs} {nxt low : Nat} {td : List (List T)}
/-- A region that writes no object, told by what it leaves. -/
theorem SatD.regToN (hΓ : EnvOk P Γ) (hm : P.follows .mixedOrders = true) {draw : Bool} {rs : List RO} (l : List (Nat × DV))
    (h : exec Γ nxt rs ⟨tm, ob, td⟩ fun s => allAt s.tmps l ∧ s.objs = ob ∧ s.todo = td) (k : Q .normal ⟨look l, ob, nxt + nt + 1, low, td⟩) : SatD P nt (.region draw rs) Q ⟨tm, ob, nxt, low, td⟩ :=
  SatD.regTo hΓ hm l ob h k
end

theorem look_args : ∀ (ts : List T) (i k : Nat), look (((ts.map .v).zipIdx i).map fun p => (p.2, p.1)) k = .undef ∨ look (((ts.map .v).zipIdx i).map fun p => (p.2, p.1)) k = argD (if i ≤ k then ts[k - i]? else none)
  | [], i, k => .inl rfl
  | t :: ts, i, k => by
    simp only [List.map_cons, List.zipIdx_cons, look_cons]
    split
    · rename_i h; subst h; exact .inr (by simp [argD])
    · rename_i h
      rcases look_args ts (i + 1) k with e | e
      · exact .inl e
      · right
        rw [e]
        by_cases hk : i + 1 ≤ k
        · rw [if_pos hk, if_pos (by omega), show k - i = (k - (i + 1)) + 1 by omega, List.getElem?_cons_succ]
        · have : ¬ i ≤ k := by omega
          rw [if_neg hk, if_neg this]
/-- An iterator's beginning, its slots told one by one. -/
theorem initI_sat {P : Program} {nt : Nat} {d : DC} {Q : Exit → DSt → Prop} {caps : List T} {tot : List (List T)}
    (h : SatD P nt d Q ⟨look ((0, .yld) :: ((caps.map .v).zipIdx 1).map fun p => (p.2, p.1)), obs [], 1000, 0, tot⟩) : SatD P nt d Q (initI caps tot) := by
  refine SatD.le (Le.trans (Le.slots (st := initI caps tot) (tm := look ((0, .yld) :: ((caps.map .v).zipIdx 1).map fun p => (p.2, p.1))) fun k => ?_) (fun κ nt a w L r => ⟨L, r⟩)) h
  simp only [look_cons]
  split
  · rename_i e; subst e; exact .inr rfl
  · rename_i e
    rcases look_args caps 1 k with h | h
    · exact .inl h
    · rw [h]
      have : 1 ≤ k := by omega
      rw [if_pos this]
      obtain ⟨j, rfl⟩ : ∃ j, k = j + 1 := ⟨k - 1, by omega⟩
      exact .inr rfl

/-- The objects with one told anew. -/
def setO (f : Obs) (r : Nat) (o : Ob) : Obs := fun k => if k = r then some o else f k
theorem setO_apply (f : Obs) (r : Nat) (o : Ob) (k : Nat) : setO f r o k = if k = r then some o else f k := rfl
@[simp] theorem putO_setO (f : Obs) (r : Nat) (o o' : Ob) : putO (setO f r o) (some (r, o')) = setO f r o' := by
  funext k
  simp only [putO_some, setO]
  split <;> rfl
@[simp] theorem setO_setO (f : Obs) (r : Nat) (o o' : Ob) : setO (setO f r o) r o' = setO f r o' := by
  funext k
  simp only [setO]
  split <;> rfl
theorem setO_self {f : Obs} {r : Nat} {o : Ob} (h : f r = some o) : f = setO f r o := by
  funext k
  simp only [setO]
  split
  · rename_i e; rw [e, h]
  · rfl
theorem setO_none {f : Obs} {r : Nat} {o o' : Ob} (h : f r = some o) {k : Nat} (hk : f k = none) : setO f r o' k = none := by
  simp only [setO]
  split
  · rename_i e; rw [e, h] at hk; cases hk
  · exact hk
/-- Fewer slots, another next name. -/
theorem Le.same {tm : Nat → DV} {ob : Obs} {nxt nxt' low : Nat} {td : List (List T)} {l : List (Nat × DV)} (h : ∀ r, nxt' ≤ r → ob r = none) (hl : allAt tm l) : Le ⟨tm, ob, nxt, low, td⟩ ⟨look l, ob, nxt', low, td⟩ :=
  Le.trans (Le.slots (allAt_le hl)) fun κ nt a w L r => ⟨L, ⟨r.r, h, r.low, r.it⟩⟩
theorem look_argsV : ∀ (ds : List DV) (i k : Nat), look ((ds.zipIdx i).map fun p => (p.2, p.1)) k = .undef ∨ look ((ds.zipIdx i).map fun p => (p.2, p.1)) k = argV (if i ≤ k then ds[k - i]? else none)
  | [], i, k => .inl rfl
  | t :: ts, i, k => by
    simp only [List.map_cons, List.zipIdx_cons, look_cons]
    split
    · rename_i h; subst h; exact .inr (by simp [argV])
    · rename_i h
      rcases look_argsV ts (i + 1) k with e | e
      · exact .inl e
      · right
        rw [e]
        by_cases hk : i + 1 ≤ k
        · rw [if_pos hk, if_pos (by omega), show k - i = (k - (i + 1)) + 1 by omega, List.getElem?_cons_succ]
        · have : ¬ i ≤ k := by omega
          rw [if_neg hk, if_neg this]
/-- The beginning of a function that may write, its slots told one by one. -/
theorem initS_sat {P : Program} {nt : Nat} {d : DC} {Q : Exit → DSt → Prop} {args : List DV} {objs : Obs} {N : Nat} (h : SatD P nt d Q ⟨look (args.zipIdx.map fun p => (p.2, p.1)), objs, N, N, []⟩) : SatD P nt d Q (initS args objs N) := by
  refine SatD.le (Le.slots (st := initS args objs N) (tm := look (args.zipIdx.map fun p => (p.2, p.1))) fun k => ?_) h
  have := look_argsV args 0 k
  simpa [initS] using this

theorem pureCells_map : ∀ {x : List T}, (∀ t ∈ x, leafT t = true) → pureCells (x.map .v)
  | [], _ => trivial
  | t :: x, h => ⟨h t (List.mem_cons_self ..), pureCells_map fun t ht => h t (List.mem_cons_of_mem _ ht)⟩
@[simp] theorem tOfs_map (ob : Obs) : ∀ x : List T, tOfs ob (x.map .v) = x
  | [] => rfl
  | t :: x => by simp [tOfs_map ob x]
@[simp] theorem setO_get (f : Obs) (r : Nat) (o : Ob) : setO f r o r = some o := by simp [setO]
/-- A row of n cells that hold no part of another value. -/
def rowOk (n : Nat) (x : List T) : Prop := x.length = n ∧ ∀ t ∈ x, leafT t = true
theorem splice_all {n : Nat} {x y : List T} (hx : x.length = n) (hy : y.length = n) : splice x 0 y = y := by
  simp [splice, hx, hy]

theorem CallsS.of {P : Program} {f : FuncId} {args : List DV} {objs : Obs} {r r' : SRes} (h : CallsS P f args objs r) (h1 : r'.objs = r.objs) (h2 : r'.val = r.val) : CallsS P f args objs r' := by
  obtain ⟨ok, val, ob⟩ := r
  obtain ⟨ok', val', ob'⟩ := r'
  simp only at h1 h2
  subst h1 h2
  exact ⟨h.entry, h.run⟩
end Go.DM
