/- The D-machine, part Q: contracts put together; from the machine's readings to the claim's. Conditions: none. -/
import Derived.Test.YtecgedikabjcdaaDmP
namespace Go.DM
open Go.RowKit
set_option linter.unusedSimpArgs false
set_option linter.unusedVariables false

/-- Contracts by a list. -/
def envOf : List (Nat × Spec) → Env
  | [], _ => none
  | (g, s) :: l, f => if f = g then some s else envOf l f

theorem EnvOk.nil {P : Program} : EnvOk P (envOf []) := fun _ _ h => by cases h
theorem EnvOk.add {P : Program} {f : Nat} {s : Spec} {l : List (Nat × Spec)} (h : EnvOk P (envOf l)) (k : SpecOk P f s) : EnvOk P (envOf ((f, s) :: l)) := by
  intro g s' hg
  simp only [envOf] at hg
  split at hg
  · rename_i e; cases hg; subst e; exact k
  · exact h g s' hg
theorem EnvOk.cons {P : Program} {f : Nat} {s : Spec} {l : List (Nat × Spec)} (h : EnvOk P (envOf l))
    (k : ∀ ts, s.pre ts → CallsOk P f ts (s.fn ts) ∧ (s.scalar = true → scalarT (s.fn ts) = true)) (hs : s.st = none := by rfl) : EnvOk P (envOf ((f, s) :: l)) :=
  h.add ⟨k, fun k hk => by rw [hs] at hk; cases hk⟩
/-- The contract of a function that may write. -/
def specS (k : List DV → Obs → SRes) : Spec := ⟨fun _ => False, fun _ => .bool false, true, some k⟩
theorem EnvOk.consS {P : Program} {f : Nat} {k : List DV → Obs → SRes} {l : List (Nat × Spec)} (h : EnvOk P (envOf l))
    (hk : ∀ args objs, (k args objs).ok → (∀ N, (∀ r, N ≤ r → objs r = none) → CallsS P f args objs (k args objs)) ∧ ∀ r, objs r = none → (k args objs).objs r = none) : EnvOk P (envOf ((f, specS k) :: l)) :=
  h.add ⟨fun _ h => h.elim, fun k' e => by cases e; exact hk⟩
/-- The contract of a function that writes nothing. -/
def specP (pre : List T → Prop) (fn : List T → T) (scalar : Bool) : Spec := ⟨pre, fn, scalar, none⟩
@[simp] theorem specP_pre (pre : List T → Prop) (fn : List T → T) (scalar : Bool) : (specP pre fn scalar).pre = pre := rfl
@[simp] theorem specP_fn (pre : List T → Prop) (fn : List T → T) (scalar : Bool) : (specP pre fn scalar).fn = fn := rfl
@[simp] theorem specP_scalar (pre : List T → Prop) (fn : List T → T) (scalar : Bool) : (specP pre fn scalar).scalar = scalar := rfl
@[simp] theorem specS_st (k : List DV → Obs → SRes) : (specS k).st = some k := rfl
theorem envOf_cons (g f : Nat) (s : Spec) (l : List (Nat × Spec)) : envOf ((g, s) :: l) f = if f = g then some s else envOf l f := rfl
theorem envOf_nil (f : Nat) : envOf [] f = none := rfl
attribute [simp] envOf_cons envOf_nil

/-- A call whose arguments read as trees that hold no memory. -/
theorem CallsOk.calls {P : Program} {f : FuncId} {ts : List T} {t : T} (h : CallsOk P f ts t) {w : World} {vals : Array Value} (hr : RelA w (fun _ => False) ts vals.toList) :
    Calls P f vals w fun e w' => ∃ v, e = .returned v ∧ Below w.heap.size w w' ∧ RelT w' (fun _ => False) t v :=
  h.run (fun _ => False) w vals (fun _ h => h.elim) hr
@[simp] theorem wrap_lit (n : Nat) (h : n < 9223372036854775808) : IntKind.i64.wrap (no_index (@OfNat.ofNat Int n instOfNat)) = @OfNat.ofNat Int n instOfNat := by
  have e : (@OfNat.ofNat Int n instOfNat) = (n : Int) := rfl
  rw [e, wrap_id (by omega)]
@[simp] theorem wrap_neg (n : Nat) (h : n < 9223372036854775808) : IntKind.i64.wrap (-(no_index (@OfNat.ofNat Int n instOfNat))) = -(@OfNat.ofNat Int n instOfNat) := by
  have e : (@OfNat.ofNat Int n instOfNat) = (n : Int) := rfl
  rw [e, wrap_id (by omega)]
end Go.DM
